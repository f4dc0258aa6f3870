/-
  AccountBalances, walked.
-/
import Derived.Test.YtpiniflhaokkaaaZOpen41
import Derived.Test.YtpiniflhaokkaaaZAccC
namespace Go.Proofs.Ytpiniflhaokkaaa
open Go.RowKit
set_option linter.unusedSimpArgs false
set_option linter.unusedVariables false

theorem rests_acc {len wd : Int} {polys : List (List Pt)} {rs : List Rl} {lots : List Int} {ys : List Py} (h : scheckR len wd polys rs lots (ys.map Py.pl) = 0) : restsR rs lots (ys.map Py.pl) = (restsFrom (allP ys) rs lots 0, 0) := by
  obtain ⟨a, b, c, d⟩ := scheck_iff.1 h
  obtain ⟨_, c2, _, _⟩ := cloth_zero a
  have hcl : (allQ (ys.map Py.pl)).all (fun p => clothB p rs) = true := List.all_eq_true.2 fun q hq => by
    obtain ⟨y, hy, hq⟩ := List.mem_flatMap.1 hq
    obtain ⟨lot, l⟩ := y
    have hp : plyGo len wd polys rs lots lot none l = 0 := c _ hy
    exact (ply_facts hp q hq).1
  unfold restsR
  rw [if_neg (by simpa using c2), if_neg (by omega), if_neg (by rw [hcl]; simp), if_pos d, allP_pl]
theorem rolls_of {len wd : Int} {polys : List (List Pt)} {rs : List Rl} {lots : List Int} {ys : List Py} (h : scheckR len wd polys rs lots (ys.map Py.pl) = 0) : accRollsR rs lots ys = (usedR rs.length (allP ys), 0) := by
  unfold accRollsR
  rw [rests_acc h, if_neg (by simp)]
theorem used_end {len wd : Int} {polys : List (List Pt)} {rs : List Rl} {lots : List Int} {ys : List Py} (h : scheckR len wd polys rs lots (ys.map Py.pl) = 0) : usedR rs.length (allP ys ++ (restsFrom (allP ys) rs lots 0).map restPart) = rs.map (·.ln) := by
  obtain ⟨a, b, c, d⟩ := scheck_iff.1 h
  obtain ⟨_, c2, _, _⟩ := cloth_zero a
  obtain ⟨_, r2, r3⟩ := chkRolls_zero c2
  refine used_all r3 (fun q hq => ?_) (by rw [← allP_pl]; exact d) (fun r hr => by have := (roll_ok (r2 r hr)).2.2.2.1; omega)
  rw [← allP_pl] at hq
  obtain ⟨y, hy, hq⟩ := List.mem_flatMap.1 hq
  obtain ⟨lot, l⟩ := y
  have hp : plyGo len wd polys rs lots lot none l = 0 := c _ hy
  exact (ply_facts hp q hq).1
/-- What is used of each roll, with the first i of the rests. -/
def usedX (n : Nat) (ys : List Py) (xs : List Qd) (i : Nat) : List Int := usedR n (allP ys ++ (xs.take i).map restPart)
theorem Ok40.once {c : C8} (h : Ok40 c) {ys : List Py} (hys : ys.map Py.pl = (spR c).1) : OnceOk c.rs c.lots c.plies ys (restsFrom (allP ys) c.rs c.lots 0) := by
  obtain ⟨hLk, hLg, hrq⟩ := laid_ok h.2.1
  have := once_of (ys := ys) (by rw [hys]; exact hLk) (by rw [hys]; exact hLg)
  rwa [allP_pl] at this

set_option maxHeartbeats 8000000 in
set_option maxRecDepth 100000 in
theorem law40_AccountBalances (hex : ∀ W, Calls Try.prog 17 #[] W (Ret (.bool true) W)) (c : C8) (w : World) (hc : C8Ok w c) :
    Calls Try.prog 7 #[c.agg] w (Ret (.bool true) w) := by
  have HX := Lib.hid hex
  by_cases hok : Ok40 c
  · have HL := Lib.hid (fun W (hW : Later w W) => law40_yes c W (hc.later hW) hok)
    have Ha := Lib.hid (fun ys hys => Ok40.acc hok (ys := ys) hys)
    have Hp := Lib.hid (fun ys hys => Ok40.parts hok (ys := ys) hys)
    have Ho := Lib.hid (fun ys hys => Ok40.once hok (ys := ys) hys)
    have hrs := hc.rs
    have HR1 := Lib.hid (fun S1 S2 P (n1 c1 n2 c2 pc : Nat) l0 l1 l2 l3 ys W (hW : Later w W) (hP : Plys W P ys) (hn : ys.length ≤ 8) (hp : ∀ y ∈ ys, y.parts.length ≤ 6) (hz : scheckR c.len c.wd c.ps c.rs c.lots (ys.map Py.pl) = 0) => by
      obtain ⟨a1, a2, a3, a4, a5, a6, a7⟩ := few8_all hok.1
      have h := account_Rolls c.ra c.la S1 S2 P c.rc c.lc n1 c1 n2 c2 pc l0 l1 l2 l3 c.rs c.lots ys W (hc.rs.later hW) (by omega) (hc.lots.later hW) (by omega) hP (by omega) (fun y hy => by have := hp y hy; omega)
      rw [rolls_of hz] at h
      unfold UseRPost at h
      simp only [used_len] at h
      exact h)
    have HR2 := Lib.hid (fun S1 S2 P (n1 c1 n2 c2 pc : Nat) l0 l1 l2 l3 ys W (hW : Later w W) (hP : Plys W P ys) (hn : ys.length ≤ 8) (hp : ∀ y ∈ ys, y.parts.length ≤ 6) (hz : scheckR c.len c.wd c.ps c.rs c.lots (ys.map Py.pl) = 0) => by
      obtain ⟨a1, a2, a3, a4, a5, a6, a7⟩ := few8_all hok.1
      have h := spread_Rests c.ra c.la S1 S2 P c.rc c.lc n1 c1 n2 c2 pc l0 l1 l2 l3 c.rs c.lots ys W (hc.rs.later hW) (by omega) (hc.lots.later hW) (by omega) hP (by omega) (fun y hy => by have := hp y hy; omega)
      rw [rests_acc hz] at h
      exact h)
    have hfew := few8_all hok.1
    unfold C8.agg LaidY40 at HL
    unfold C8.agg
    unfold RestsPost at HR2
    generalize (spR c).1 = yl at *
    clear hok hc
    obtain ⟨len, wd, rx, ry, s1, c1, sz, s2, c2, pl, qa, qc, ps, ra, rc, rs, la, lc, lots, aa, ac, plies⟩ := c
    simp only [] at HL Ha Hp Ho HR1 HR2 hrs hfew ⊢
    have h6 : rs.length ≤ 6 := hfew.2.2.1
    clear hfew
    go_enter Try.func7, Try.ntmps7
    go_upto_region 1 with fail
    refine name_world (fun W1 hW1 => ?_)
    have hl1 : Later w W1 := by rw [hW1]; exact (by repeat' (with_reducible first | exact Later.refl _ | assumption | refine Later.drew ?_ | refine Later.drewN ?_ _ | refine Later.alloc ?_ _ | refine Later.put ?_ (by omega) _ | refine Later.trans ?_ (by assumption)))
    have D1 : Blk W1 w.heap.size 31 #[.int .i64 len, .int .i64 wd, .int .i64 rx, .int .i64 ry, .slice s1 sz.length c1, .slice s2 pl.length c2, .slice qa ps.length qc, .slice ra rs.length rc, .slice la lots.length lc, .slice aa plies.length ac] := by rw [hW1]; exact (by repeat' (with_reducible first | assumption | (refine Blk.newAt ?_; simp; done) | refine Blk.alloc ?_ _ | refine Blk.drew ?_ | refine Blk.drewN ?_ _ | refine Blk.later ?_ (by assumption)))
    clear hW1
    have k0 : W1.cell? ⟨w.heap.size, 0, none⟩ = some (.int .i64 len) := D1.cell 0
    have k1 : W1.cell? ⟨w.heap.size, 1, none⟩ = some (.int .i64 wd) := D1.cell 1
    have k2 : W1.cell? ⟨w.heap.size, 2, none⟩ = some (.int .i64 rx) := D1.cell 2
    have k3 : W1.cell? ⟨w.heap.size, 3, none⟩ = some (.int .i64 ry) := D1.cell 3
    have k4 : W1.cell? ⟨w.heap.size, 4, none⟩ = some (.slice s1 sz.length c1) := D1.cell 4
    have k5 : W1.cell? ⟨w.heap.size, 5, none⟩ = some (.slice s2 pl.length c2) := D1.cell 5
    have k6 : W1.cell? ⟨w.heap.size, 6, none⟩ = some (.slice qa ps.length qc) := D1.cell 6
    have k7 : W1.cell? ⟨w.heap.size, 7, none⟩ = some (.slice ra rs.length rc) := D1.cell 7
    have k8 : W1.cell? ⟨w.heap.size, 8, none⟩ = some (.slice la lots.length lc) := D1.cell 8
    have k9 : W1.cell? ⟨w.heap.size, 9, none⟩ = some (.slice aa plies.length ac) := D1.cell 9
    have zk := D1.lt
    go_upto_region 2 with (first | (go_at_call 21; (with_reducible refine (HL.out _ hl1).mono ?_); rintro e w2 ⟨S1, d1, S2, d2, P, pc, ys, bt, bp, bd, bw, bs, rfl, hB, hys, h8, hpc, hpm, hP, hb2⟩))
    obtain ⟨ha1, ha2, ha3⟩ := Ha.out ys hys
    have hpr := Hp.out ys hys
    have hbd := bal_bd ha2 ha3 h8 hpr
    have hpos := bal_pos ha2 ha3
    have htk : bt = tknA rs ys := (congrArg Bal.t hB).symm
    obtain ⟨hAB, hwd, _, _, _, hl0, hl1', hw0, hw1⟩ := acc_parts ha2
    have hon := Ho.out ys hys
    have Hue := Lib.hid (used_end ha2)
    have HQ1 := Lib.hid (fun W (hW : Later w W) (hP : Plys W P ys) => HR1.out S1 S2 P sz.length d1 pl.length d2 pc len wd rx ry ys W hW hP h8 hpr ha2)
    have HQ2 := Lib.hid (fun W (hW : Later w W) (hP : Plys W P ys) => HR2.out S1 S2 P sz.length d1 pl.length d2 pc len wd rx ry ys W hW hP h8 hpr ha2)
    rw [hB] at hbd hpos
    simp only [] at hbd hpos
    obtain ⟨⟨t1, t2⟩, ⟨u1, u2⟩, ⟨p1, p2⟩, ⟨d1', d2'⟩, hw⟩ := hbd
    obtain ⟨x1, x2, x3, x4, -⟩ := hpos
    have HAB := Lib.hid hAB
    have HWD := Lib.hid hwd
    have Hpr := Lib.hid hpr
    have Htk := Lib.hid htk
    obtain ⟨-, -, -, -, hpart, hrest, -, hall, hxsl, -, -⟩ := hon
    have Hpart := Lib.hid hpart
    have Hrest := Lib.hid hrest
    generalize restsFrom (allP ys) rs lots 0 = xs at *
    have hw2 : bt = bp + bd + bs + bw := by omega
    have Hw2 := Lib.hid hw2
    clear ha1 ha2 ha3 hB hys Ha Hp HL HR1 HR2 Ho hAB hwd hpr htk hpart hrest hw hw2
    go_upto_region 4 with fail
    refine name_world (fun W3 hW3 => ?_)
    have hl3 : Later w2 W3 := by rw [hW3]; exact (by repeat' (with_reducible first | exact Later.refl _ | assumption | refine Later.drew ?_ | refine Later.drewN ?_ _ | refine Later.alloc ?_ _ | refine Later.put ?_ (by omega) _ | refine Later.trans ?_ (by assumption)))
    have D3 : Blk W3 w2.heap.size 39 #[.int .i64 len, .int .i64 wd, .int .i64 rx, .int .i64 ry, .slice S1 sz.length d1, .slice S2 pl.length d2, .slice P ys.length pc] := by rw [hW3]; exact (by repeat' (with_reducible first | assumption | (refine Blk.newAt ?_; simp; done) | refine Blk.alloc ?_ _ | refine Blk.drew ?_ | refine Blk.drewN ?_ _ | refine Blk.later ?_ (by assumption)))
    have D4 : Blk W3 (w2.heap.size + 1) 58 #[.int .i64 bt, .int .i64 bp, .int .i64 bd, .int .i64 bw, .int .i64 bs] := by rw [hW3]; exact (by repeat' (with_reducible first | assumption | (refine Blk.newAt ?_; simp; done) | refine Blk.alloc ?_ _ | refine Blk.drew ?_ | refine Blk.drewN ?_ _ | refine Blk.later ?_ (by assumption)))
    have D1b := (D1.later hb2).later hl3
    have hlw := (hl1.trans hb2).trans hl3
    have hP3 := Plys.later hP hl3
    clear hW3 k0 k1 k2 k3 k4 k5 k6 k7 k8 k9 zk hb2 hl1 hl3 hP D1
    generalize w2.heap.size + 1 = g4 at *
    generalize w2.heap.size = g3 at *
    have k0 : W3.cell? ⟨w.heap.size, 0, none⟩ = some (.int .i64 len) := D1b.cell 0
    have k1 : W3.cell? ⟨w.heap.size, 1, none⟩ = some (.int .i64 wd) := D1b.cell 1
    have k2 : W3.cell? ⟨w.heap.size, 2, none⟩ = some (.int .i64 rx) := D1b.cell 2
    have k3 : W3.cell? ⟨w.heap.size, 3, none⟩ = some (.int .i64 ry) := D1b.cell 3
    have k4 : W3.cell? ⟨w.heap.size, 4, none⟩ = some (.slice s1 sz.length c1) := D1b.cell 4
    have k5 : W3.cell? ⟨w.heap.size, 5, none⟩ = some (.slice s2 pl.length c2) := D1b.cell 5
    have k6 : W3.cell? ⟨w.heap.size, 6, none⟩ = some (.slice qa ps.length qc) := D1b.cell 6
    have k7 : W3.cell? ⟨w.heap.size, 7, none⟩ = some (.slice ra rs.length rc) := D1b.cell 7
    have k8 : W3.cell? ⟨w.heap.size, 8, none⟩ = some (.slice la lots.length lc) := D1b.cell 8
    have k9 : W3.cell? ⟨w.heap.size, 9, none⟩ = some (.slice aa plies.length ac) := D1b.cell 9
    have zk := D1b.lt
    have l0 : W3.cell? ⟨g3, 0, none⟩ = some (.int .i64 len) := D3.cell 0
    have l1 : W3.cell? ⟨g3, 1, none⟩ = some (.int .i64 wd) := D3.cell 1
    have l2 : W3.cell? ⟨g3, 2, none⟩ = some (.int .i64 rx) := D3.cell 2
    have l3 : W3.cell? ⟨g3, 3, none⟩ = some (.int .i64 ry) := D3.cell 3
    have l4 : W3.cell? ⟨g3, 4, none⟩ = some (.slice S1 sz.length d1) := D3.cell 4
    have l5 : W3.cell? ⟨g3, 5, none⟩ = some (.slice S2 pl.length d2) := D3.cell 5
    have l6 : W3.cell? ⟨g3, 6, none⟩ = some (.slice P ys.length pc) := D3.cell 6
    have zl := D3.lt
    have q0 : W3.cell? ⟨g4, 0, none⟩ = some (.int .i64 bt) := D4.cell 0
    have q1 : W3.cell? ⟨g4, 1, none⟩ = some (.int .i64 bp) := D4.cell 1
    have q2 : W3.cell? ⟨g4, 2, none⟩ = some (.int .i64 bd) := D4.cell 2
    have q3 : W3.cell? ⟨g4, 3, none⟩ = some (.int .i64 bw) := D4.cell 3
    have q4 : W3.cell? ⟨g4, 4, none⟩ = some (.int .i64 bs) := D4.cell 4
    have zq := D4.lt
    have e1 : decide (bp < 0) = false := by simpa using x1
    have e2 : decide (bd < 0) = false := by simpa using x2
    have e3 : decide (bs < 0) = false := by simpa using x3
    have e4 : decide (bw < 0) = false := by simpa using x4
    have v1 : IntKind.i64.wrap (bp + bd) = bp + bd := IntWalk.i64_in _ (by omega)
    have v2 : IntKind.i64.wrap (bp + bd + bs) = bp + bd + bs := IntWalk.i64_in _ (by omega)
    have v3 : IntKind.i64.wrap (bp + bd + bs + bw) = bt := by rw [← Hw2.out]; exact IntWalk.i64_in _ (by omega)
    have e5 : (bt != bt) = false := by simp
    go_upto_region 8 with fail
    clear v1 v2 v3 e1 e2 e3 e4 k0 k1 k2 k3 k4 k5 k6 k7 k8 k9 zk l0 l1 l2 l3 l4 l5 l6 zl q0 q1 q2 q3 q4 zq
    have hP3n := Lib.hid hP3
    go_loopw [6, 7] (fun tv iv wr => ∃ (i : Nat) (t : Int), i ≤ ys.length ∧ iv = .int .i64 i ∧ tv = .int .i64 t ∧ t = tknA rs (ys.take i) ∧ -(105553116266496 * (i : Int)) ≤ t ∧ t ≤ 105553116266496 * (i : Int) ∧ Later W3 wr) (fun _ iv _ => ys.length - (intOf iv).toNat)
    case atStart => exact ⟨0, 0, by omega, rfl, rfl, rfl, by omega, by omega, Later.refl _⟩
    case round =>
      obtain ⟨i, t, hi, rfl, rfl, ht, b1, b2, hb⟩ := hrel
      have Ht := Lib.hid ht
      clear ht
      have l6 : wr.cell? ⟨g3, 6, none⟩ = some (.slice P ys.length pc) := (D3.later hb).cell 6
      have zl := (D3.later hb).lt
      by_cases hlt : i < ys.length
      · obtain ⟨bP, oP, rfl, e1, e2, hyk⟩ := (Plys.later hP3 hb).at_ hlt
        have Hnx := Lib.hid (tknA_take (rs := rs) hlt)
        have hpn := Hpr.out _ (List.getElem_mem hlt)
        have hokw : PyOk W3 ys[i] := by obtain ⟨_, _, _, _, _, h⟩ := hP3.at_ hlt; exact h
        have He2 := Lib.hid (by obtain ⟨_, _, e, _, h, _⟩ := hP3.at_ hlt; cases e; exact h : W3.cell? ⟨bP, oP + i * 2 + 1, none⟩ = some (.slice ys[i].pa ys[i].parts.length ys[i].pc))
        have hQ0 := hokw.2.2.1
        have HABi := Lib.hid (HAB.out _ (List.getElem_mem hlt))
        have hi0 : (0 : Int) ≤ (i : Int) := by omega
        have hi1 : (i : Int) < (ys.length : Int) := by omega
        clear hokw hyk
        generalize ys[i] = y at *
        obtain ⟨lot, pa, pc', parts⟩ := y
        simp only [] at e1 e2 hpn He2 hQ0 HABi Hnx
        have zb := World.block_lt_of_cell? _ _ e2
        go_upto_region 11 with fail
        clear e1 e2 zb l6 zl
        go_loopw [6, 8] (fun tv jv wq => ∃ (j : Nat) (s : Int), j ≤ parts.length ∧ jv = .int .i64 j ∧ tv = .int .i64 s ∧ s = t + tknQ rs (parts.take j) ∧ -(105553116266496 * (i : Int) + 17592186044416 * (j : Int)) ≤ s ∧ s ≤ 105553116266496 * (i : Int) + 17592186044416 * (j : Int) ∧ Later W3 wq) (fun _ jv _ => parts.length - (intOf jv).toNat)
        case atStart => exact ⟨0, t, by omega, rfl, rfl, by simp [tknQ], by omega, by omega, hb⟩
        case round =>
          clear hb
          obtain ⟨j, s, hj, rfl, rfl, hs, c1', c2', hb⟩ := hrel
          have Hs := Lib.hid hs
          clear hs
          have l6 : wr.cell? ⟨g3, 6, none⟩ = some (.slice (some ⟨bP, oP, none⟩) ys.length pc) := (D3.later hb).cell 6
          have zl := (D3.later hb).lt
          have e2 : wr.cell? ⟨bP, oP + i * 2 + 1, none⟩ = some (.slice pa parts.length pc') := hb.cell He2.out
          have zb := World.block_lt_of_cell? _ _ e2
          by_cases hjl : j < parts.length
          · obtain ⟨bb, ob, rfl, hx4⟩ := (hQ0.later hb) (by omega)
            obtain ⟨y0, y1, y2, y3⟩ := hx4.get hjl
            have zb2 := World.block_lt_of_cell? _ _ y1
            obtain ⟨a1, a2, a3, a4, a5, a6, a7⟩ := HABi.out _ (List.getElem_mem hjl)
            obtain ⟨n, hn'⟩ : ∃ n : Nat, parts[j].a = (n : Int) := ⟨parts[j].a.toNat, by omega⟩
            have hnr : n < rs.length := by omega
            obtain ⟨bR, oR, rfl, r0, r1, r2, r3, r4, r5, r6, _⟩ := (hrs.later (hlw.trans hb)).at_ hnr
            have zr := World.block_lt_of_cell? _ _ r1
            obtain ⟨f1, f2⟩ := HWD.out _ (List.getElem_mem hnr)
            have HT := Lib.hid (show t + tknQ rs (parts.take (j + 1)) = s + 2 * (parts[j].c - parts[j].b) * rs[n].wd by
              rw [tknQ_take hjl, wdOf, hn', Int.toNat_natCast, grl_eq hnr, Hs.out]; omega)
            generalize parts[j] = q at *
            generalize rs[n] = r at *
            obtain ⟨qa', qb, qc', qd⟩ := q
            obtain ⟨rid, wq, rln, rtl, rta, rtb, rfa, rfc, rfl_⟩ := r
            simp only [] at y0 y1 y2 y3 a1 a2 a3 a4 a5 a6 a7 hn' r0 r1 r2 r3 r4 r5 r6 f1 f2 HT
            subst hn'
            have hmul := two_bd (a := 2 * (qc' - qb)) (b := wq) (M := 2097152) (N := 1048576) (by omega) ⟨f1, f2⟩ (by omega)
            have v1 : IntKind.i64.wrap (qc' - qb) = qc' - qb := IntWalk.i64_in _ (by omega)
            have v2 : IntKind.i64.wrap (2 * (qc' - qb)) = 2 * (qc' - qb) := IntWalk.i64_in _ (by omega)
            have v3 : IntKind.i64.wrap (2 * (qc' - qb) * wq) = 2 * (qc' - qb) * wq := IntWalk.i64_in _ (by omega)
            have v4 : IntKind.i64.wrap (s + 2 * (qc' - qb) * wq) = s + 2 * (qc' - qb) * wq := IntWalk.i64_in _ (by omega)
            have hj0 : (0 : Int) ≤ (j : Int) := by omega
            have hj1 : (j : Int) < (parts.length : Int) := by omega
            have hn0 : (0 : Int) ≤ (n : Int) := by omega
            have hn1 : (n : Int) < (rs.length : Int) := by omega
            have D1r := D1b.later hb
            go_upto_region 14 with fail
            refine name_world (fun W6 hW6 => ?_)
            have hl6 : Later wr W6 := by rw [hW6]; exact (by repeat' (with_reducible first | exact Later.refl _ | assumption | refine Later.drew ?_ | refine Later.drewN ?_ _ | refine Later.alloc ?_ _ | refine Later.put ?_ (by omega) _ | refine Later.trans ?_ (by assumption)))
            have D6 : Blk W6 wr.heap.size 64 #[.int .i64 n, .int .i64 qb, .int .i64 qc', .int .i64 qd] := by rw [hW6]; exact (by repeat' (with_reducible first | assumption | (refine Blk.newAt ?_; simp; done) | refine Blk.alloc ?_ _ | refine Blk.drew ?_ | refine Blk.drewN ?_ _ | refine Blk.later ?_ (by assumption)))
            have m0 : W6.cell? ⟨wr.heap.size, 0, none⟩ = some (.int .i64 n) := D6.cell 0
            have m1 : W6.cell? ⟨wr.heap.size, 1, none⟩ = some (.int .i64 qb) := D6.cell 1
            have m2 : W6.cell? ⟨wr.heap.size, 2, none⟩ = some (.int .i64 qc') := D6.cell 2
            have m3 : W6.cell? ⟨wr.heap.size, 3, none⟩ = some (.int .i64 qd) := D6.cell 3
            have zm := D6.lt
            have k7 : W6.cell? ⟨w.heap.size, 7, none⟩ = some (.slice (some ⟨bR, oR, none⟩) rs.length rc) := (D1r.later hl6).cell 7
            have zk := (D1r.later hl6).lt
            have r1' := hl6.cell r1
            have zr' := World.block_lt_of_cell? _ _ r1'
            have hl6w := hb.trans hl6
            clear hW6 y0 y1 y2 y3 zb2 r0 r1 r2 r3 r4 r5 r6 zr e2 zb l6 zl hl6
            generalize wr.heap.size = gp at *
            go_upto_region 16 with fail
            go_quiet (fail)
            go_wp2
            go_roundw
            case rel => exact ⟨j + 1, s + 2 * (qc' - qb) * wq, by omega, by go_num, by go_num, by rw [HT.out], by omega, by omega, hl6w.trans (by repeat' (with_reducible first | exact Later.refl _ | assumption | refine Later.drew ?_ | refine Later.drewN ?_ _ | refine Later.alloc ?_ _ | refine Later.put ?_ (by omega) _ | refine Later.trans ?_ (by assumption)))⟩
            case measure => simp [intOf]; omega
          · have hje : j = parts.length := by omega
            have Hs2 := Lib.hid (show s = tknA rs (ys.take (i + 1)) by rw [Hs.out, Hnx.out, Ht.out, hje, List.take_length])
            go_wp2
            go_roundw
            case rel => exact ⟨i + 1, s, by omega, by go_num, by go_num, Hs2.out, by omega, by omega, hb.trans (by repeat' (with_reducible first | exact Later.refl _ | assumption | refine Later.drew ?_ | refine Later.drewN ?_ _ | refine Later.alloc ?_ _ | refine Later.put ?_ (by omega) _ | refine Later.trans ?_ (by assumption)))⟩
            case measure => simp [intOf]; omega
      · have hie : i = ys.length := by omega
        have hte : t = bt := by rw [Ht.out, hie, List.take_length, ← Htk.out]
        subst hte
        clear Ht b1 b2 hlt hi
        have hlr := hlw.trans hb
        have D1c := D1b.later hb
        have D3c := D3.later hb
        have D4c := D4.later hb
        have hPc := Plys.later hP3 hb
        clear D1b D3 D4 hP3 hP3n hb
        have k0 : wr.cell? ⟨w.heap.size, 0, none⟩ = some (.int .i64 len) := D1c.cell 0
        have k1 : wr.cell? ⟨w.heap.size, 1, none⟩ = some (.int .i64 wd) := D1c.cell 1
        have k2 : wr.cell? ⟨w.heap.size, 2, none⟩ = some (.int .i64 rx) := D1c.cell 2
        have k3 : wr.cell? ⟨w.heap.size, 3, none⟩ = some (.int .i64 ry) := D1c.cell 3
        have k4 : wr.cell? ⟨w.heap.size, 4, none⟩ = some (.slice s1 sz.length c1) := D1c.cell 4
        have k5 : wr.cell? ⟨w.heap.size, 5, none⟩ = some (.slice s2 pl.length c2) := D1c.cell 5
        have k6 : wr.cell? ⟨w.heap.size, 6, none⟩ = some (.slice qa ps.length qc) := D1c.cell 6
        have k7 : wr.cell? ⟨w.heap.size, 7, none⟩ = some (.slice ra rs.length rc) := D1c.cell 7
        have k8 : wr.cell? ⟨w.heap.size, 8, none⟩ = some (.slice la lots.length lc) := D1c.cell 8
        have k9 : wr.cell? ⟨w.heap.size, 9, none⟩ = some (.slice aa plies.length ac) := D1c.cell 9
        have zk := D1c.lt
        have l0 : wr.cell? ⟨g3, 0, none⟩ = some (.int .i64 len) := D3c.cell 0
        have l1 : wr.cell? ⟨g3, 1, none⟩ = some (.int .i64 wd) := D3c.cell 1
        have l2 : wr.cell? ⟨g3, 2, none⟩ = some (.int .i64 rx) := D3c.cell 2
        have l3 : wr.cell? ⟨g3, 3, none⟩ = some (.int .i64 ry) := D3c.cell 3
        have l4 : wr.cell? ⟨g3, 4, none⟩ = some (.slice S1 sz.length d1) := D3c.cell 4
        have l5 : wr.cell? ⟨g3, 5, none⟩ = some (.slice S2 pl.length d2) := D3c.cell 5
        have l6 : wr.cell? ⟨g3, 6, none⟩ = some (.slice P ys.length pc) := D3c.cell 6
        have zl := D3c.lt
        have q0 : wr.cell? ⟨g4, 0, none⟩ = some (.int .i64 t) := D4c.cell 0
        have zq := D4c.lt
        obtain ⟨wo, rfl⟩ : ∃ wo : World, wo = wr := ⟨_, rfl⟩
        go_upto_region 18 with (first | (go_at_call 18; (with_reducible refine (HQ1.out _ (hlr.trans (by repeat' (with_reducible first | exact Later.refl _ | assumption | refine Later.drew ?_ | refine Later.drewN ?_ _ | refine Later.alloc ?_ _ | refine Later.put ?_ (by omega) _ | refine Later.trans ?_ (by assumption)))) (Plys.later hPc (by repeat' (with_reducible first | exact Later.refl _ | assumption | refine Later.drew ?_ | refine Later.drewN ?_ _ | refine Later.alloc ?_ _ | refine Later.put ?_ (by omega) _ | refine Later.trans ?_ (by assumption))))).mono ?_); rintro e w4 ⟨A4, c4, rfl, ho4, hb4⟩))
        have hb4' : Later wo w4 := (by repeat' (with_reducible first | exact Later.refl _ | assumption | refine Later.drew ?_ | refine Later.drewN ?_ _ | refine Later.alloc ?_ _ | refine Later.put ?_ (by omega) _ | refine Later.trans ?_ (by assumption)))
        have Ho4 := Lib.hid (show OwnR w4 wo.heap.size 3 1 i1 (.slice A4 rs.length c4) (usedR rs.length (allP ys)) from OwnR.low ho4 (by first | exact Nat.le_refl _ | simp))
        have D1d := D1c.later hb4'
        have D3d := D3c.later hb4'
        have D4d := D4c.later hb4'
        have hP4 := Plys.later hPc hb4'
        clear k0 k1 k2 k3 k4 k5 k6 k7 k8 k9 zk l0 l1 l2 l3 l4 l5 l6 zl q0 zq ho4 hb4
        have k0 : w4.cell? ⟨w.heap.size, 0, none⟩ = some (.int .i64 len) := D1d.cell 0
        have k1 : w4.cell? ⟨w.heap.size, 1, none⟩ = some (.int .i64 wd) := D1d.cell 1
        have k2 : w4.cell? ⟨w.heap.size, 2, none⟩ = some (.int .i64 rx) := D1d.cell 2
        have k3 : w4.cell? ⟨w.heap.size, 3, none⟩ = some (.int .i64 ry) := D1d.cell 3
        have k4 : w4.cell? ⟨w.heap.size, 4, none⟩ = some (.slice s1 sz.length c1) := D1d.cell 4
        have k5 : w4.cell? ⟨w.heap.size, 5, none⟩ = some (.slice s2 pl.length c2) := D1d.cell 5
        have k6 : w4.cell? ⟨w.heap.size, 6, none⟩ = some (.slice qa ps.length qc) := D1d.cell 6
        have k7 : w4.cell? ⟨w.heap.size, 7, none⟩ = some (.slice ra rs.length rc) := D1d.cell 7
        have k8 : w4.cell? ⟨w.heap.size, 8, none⟩ = some (.slice la lots.length lc) := D1d.cell 8
        have k9 : w4.cell? ⟨w.heap.size, 9, none⟩ = some (.slice aa plies.length ac) := D1d.cell 9
        have zk := D1d.lt
        have l0 : w4.cell? ⟨g3, 0, none⟩ = some (.int .i64 len) := D3d.cell 0
        have l1 : w4.cell? ⟨g3, 1, none⟩ = some (.int .i64 wd) := D3d.cell 1
        have l2 : w4.cell? ⟨g3, 2, none⟩ = some (.int .i64 rx) := D3d.cell 2
        have l3 : w4.cell? ⟨g3, 3, none⟩ = some (.int .i64 ry) := D3d.cell 3
        have l4 : w4.cell? ⟨g3, 4, none⟩ = some (.slice S1 sz.length d1) := D3d.cell 4
        have l5 : w4.cell? ⟨g3, 5, none⟩ = some (.slice S2 pl.length d2) := D3d.cell 5
        have l6 : w4.cell? ⟨g3, 6, none⟩ = some (.slice P ys.length pc) := D3d.cell 6
        have zl := D3d.lt
        go_upto_region 19 with (first | (go_at_call 22; (with_reducible refine (HQ2.out _ ((hlr.trans hb4').trans (by repeat' (with_reducible first | exact Later.refl _ | assumption | refine Later.drew ?_ | refine Later.drewN ?_ _ | refine Later.alloc ?_ _ | refine Later.put ?_ (by omega) _ | refine Later.trans ?_ (by assumption)))) (Plys.later hP4 (by repeat' (with_reducible first | exact Later.refl _ | assumption | refine Later.drew ?_ | refine Later.drewN ?_ _ | refine Later.alloc ?_ _ | refine Later.put ?_ (by omega) _ | refine Later.trans ?_ (by assumption))))).mono ?_); rintro e w5 ⟨A5, c5, rfl, ho5, hb5⟩))
        have hb5' : Later w4 w5 := (by repeat' (with_reducible first | exact Later.refl _ | assumption | refine Later.drew ?_ | refine Later.drewN ?_ _ | refine Later.alloc ?_ _ | refine Later.put ?_ (by omega) _ | refine Later.trans ?_ (by assumption)))
        have Ho5 := Lib.hid (show OwnR w5 w4.heap.size 68 4 qd4 (.slice A5 xs.length c5) xs from OwnR.low ho5 (by first | exact Nat.le_refl _ | simp))
        have Ho4b := Lib.hid (OwnR.later Ho4.out hb5')
        have hbo := hb4'.trans hb5'
        have hg4 : wo.heap.size ≤ w4.heap.size := hb4'.size
        have Hlt := Lib.hid (fun g (h : (Value.slice A4 rs.length c4).ownBlock = some g) => (World.ownsRow.lt Ho4.out g h).2)
        have D4e := D4d.later hb5'
        have D1e := D1d.later hb5'
        clear k0 k1 k2 k3 k4 k5 k6 k7 k8 k9 zk l0 l1 l2 l3 l4 l5 l6 zl ho5 hb5
        have q0 : w5.cell? ⟨g4, 0, none⟩ = some (.int .i64 t) := D4e.cell 0
        have zq := D4e.lt
        have k7 : w5.cell? ⟨w.heap.size, 7, none⟩ = some (.slice ra rs.length rc) := D1e.cell 7
        have zk := D1e.lt
        have e6 : (t != t) = false := by simp
        have e7 : ((rs.length : Int) != (rs.length : Int)) = false := by simp
        go_upto_region 22 with fail
        clear q0 zq k7 zk e6 e7
        generalize w4.heap.size = g5 at *
        go_loopw [14] (fun iv wq => ∃ i : Nat, i ≤ xs.length ∧ iv = .int .i64 i ∧ OwnR wq wo.heap.size 3 1 i1 (.slice A4 rs.length c4) (usedX rs.length ys xs i) ∧ OwnR wq g5 68 4 qd4 (.slice A5 xs.length c5) xs ∧ Later wo wq) (fun iv _ => xs.length - (intOf iv).toNat)
        case atStart => exact ⟨0, by omega, rfl, by unfold usedX; rw [List.take_zero, List.map_nil, List.append_nil]; exact Ho4b.out, Ho5.out, hbo⟩
        case round =>
          clear hb4' hb5' hbo
          obtain ⟨i, hi, rfl, ho, hx, hb⟩ := hrel
          have Ho := Lib.hid (show OwnR wr wo.heap.size 3 1 i1 (.slice A4 rs.length c4) (usedR rs.length (allP ys ++ (xs.take i).map restPart)) from ho)
          have Hx := Lib.hid hx
          clear ho
          by_cases hlt : i < xs.length
          · obtain ⟨A', c', e, _, _, hX⟩ := hx.qds
            injection e with e _ ec
            subst e ec
            clear hx
            obtain ⟨bx, ox, rfl, hx4⟩ := hX (by omega)
            obtain ⟨y0, y1, y2, y3⟩ := hx4.get hlt
            have zb := World.block_lt_of_cell? _ _ y1
            obtain ⟨a1, a2, _, a3, a4, a5, a6⟩ := Hrest.out _ (List.getElem_mem hlt)
            obtain ⟨n, hn'⟩ : ∃ n : Nat, xs[i].a = (n : Int) := ⟨xs[i].a.toNat, by omega⟩
            have hnr : n < rs.length := by omega
            obtain ⟨U, hU⟩ : ∃ U, U = usedR rs.length (allP ys ++ (xs.take i).map restPart) := ⟨_, rfl⟩
            have hul : U.length = rs.length := by rw [hU]; exact used_len ..
            have ho' : OwnR wr wo.heap.size 3 1 i1 (.slice A4 U.length c4) U := by rw [hul, hU]; exact Ho.out
            have hnu : n < U.length := by omega
            have hub : 0 ≤ U[n] ∧ U[n] ≤ 1048576 * ((allP ys ++ (xs.take i).map restPart).length : Int) := by
              subst hU
              rw [used_at hnr]
              exact used_bd (parts := allP ys ++ (xs.take i).map restPart) (fun p hp => by
                rcases List.mem_append.1 hp with hp | hp
                · obtain ⟨y, hy, hq⟩ := List.mem_flatMap.1 hp
                  have := Hpart.out y hy p hq
                  omega
                · obtain ⟨q, hq, rfl⟩ := List.mem_map.1 hp
                  have := Hrest.out q (List.mem_of_mem_take hq)
                  show 0 ≤ q.d - q.c ∧ q.d - q.c ≤ 1048576
                  omega) (n : Int)
            rw [List.length_append, List.length_map, List.length_take] at hub
            have Hst2 := Lib.hid (show usedR rs.length (allP ys ++ (xs.take (i + 1)).map restPart) = U.set n (U[n] + (xs[i].d - xs[i].c)) by
              have Hst := used_snoc (n := rs.length) (parts := allP ys ++ (xs.take i).map restPart) (p := restPart xs[i]) a1 a2
              subst hU
              rw [List.take_succ_eq_append_getElem hlt, List.map_append, List.map_singleton, ← List.append_assoc, Hst]
              have e : (restPart xs[i]).a.toNat = n := by show xs[i].a.toNat = n; omega
              simp only [e]
              rfl)
            clear hU
            obtain ⟨g, c4', e4, q1, q2, q3, q4, q5⟩ := ho'.blk i1_len (by omega)
            injection e4 with e4 _ e5
            subst e5
            subst e4
            have hgg := Hlt.out g rfl
            obtain ⟨b, o, e4, u0⟩ := (ho'.ints2).at_ hnu
            cases e4
            rw [Nat.zero_add] at u0
            have fu := q5 n
            have zu := World.block_lt_of_cell? _ _ u0
            have Ho' := Lib.hid ho'
            clear ho'
            obtain ⟨uv, huv⟩ : ∃ uv, U[n] = uv := ⟨_, rfl⟩
            simp only [huv] at u0 hub Hst2
            clear huv
            generalize xs[i] = q at *
            obtain ⟨qa', qb, qc', qd⟩ := q
            simp only [] at y0 y1 y2 y3 a1 a2 a3 a4 a5 a6 hn' Hst2
            subst hn'
            have hn0 : (0 : Int) ≤ (n : Int) := by omega
            have hn1 : (n : Int) < (U.length : Int) := by omega
            have hn2 : (n : Int) < (rs.length : Int) := by omega
            have hi0 : (0 : Int) ≤ (i : Int) := by omega
            have hi1 : (i : Int) < (xs.length : Int) := by omega
            have hlen0 : 0 < U.length := by omega
            have Hul := Lib.hid hul
            clear hul
            have v2 : IntKind.i64.wrap (uv + qd) = uv + qd := IntWalk.i64_in _ (by omega)
            have v3 : IntKind.i64.wrap (uv + qd - qc') = uv + qd - qc' := IntWalk.i64_in _ (by omega)
            rw [show uv + (qd - qc') = uv + qd - qc' by omega] at Hst2
            go_upto_region 26 with fail
            go_still_tail 27, (by kernel_rfl)
            change wpList _ _ _ _ _ (World.drew _)
            go_upto_region 23 with fail
            refine name_world (fun W7 hW7 => ?_)
            have hl7 := Lib.hid (show Later wo W7 by rw [hW7]; exact (hb.drew).put (by omega) _)
            have Ho7 := Lib.hid (show OwnR W7 wo.heap.size 3 1 i1 (.slice (some ⟨g, 0, none⟩) rs.length c4) (usedX rs.length ys xs (i + 1)) by
              unfold usedX
              have h := OwnR.setInt (OwnR.drew Ho'.out) n (uv + qd - qc')
              rw [hW7, Hst2.out, ← Hul.out]
              exact h)
            have Hx7 := Lib.hid (show OwnR W7 g5 68 4 qd4 (.slice (some ⟨bx, ox, none⟩) xs.length c5) xs by rw [hW7]; exact OwnR.past (OwnR.drew Hx.out) hgg)
            clear hW7
            go_wp2
            go_roundw
            case rel => exact ⟨i + 1, by omega, by go_num, Ho7.out.later (by repeat' (with_reducible first | exact Later.refl _ | assumption | refine Later.drew ?_ | refine Later.drewN ?_ _ | refine Later.alloc ?_ _ | refine Later.put ?_ (by omega) _ | refine Later.trans ?_ (by assumption))), Hx7.out.later (by repeat' (with_reducible first | exact Later.refl _ | assumption | refine Later.drew ?_ | refine Later.drewN ?_ _ | refine Later.alloc ?_ _ | refine Later.put ?_ (by omega) _ | refine Later.trans ?_ (by assumption))), hl7.out.trans (by repeat' (with_reducible first | exact Later.refl _ | assumption | refine Later.drew ?_ | refine Later.drewN ?_ _ | refine Later.alloc ?_ _ | refine Later.put ?_ (by omega) _ | refine Later.trans ?_ (by assumption)))⟩
            case measure => simp [intOf]; omega
          · have hie : i = xs.length := by omega
            subst hie
            have hI : Ints wr A4 (rs.map (·.ln)) := by
              have := Ho.out.ints2
              rwa [List.take_length, Hue.out] at this
            have hw3 := hlr.trans hb
            have D1f := D1c.later hb
            clear Ho Hx hx hlt hi Hlt Ho4 Ho5 Ho4b Hue
            obtain ⟨wE, rfl⟩ : ∃ wE : World, wE = wr := ⟨_, rfl⟩
            go_upto_region 28 with fail
            go_loopw [15] (fun iv wq => ∃ j : Nat, j ≤ rs.length ∧ iv = .int .i64 j ∧ Later wE wq) (fun iv _ => rs.length - (intOf iv).toNat)
            case atStart => exact ⟨0, by omega, rfl, (by repeat' (with_reducible first | exact Later.refl _ | assumption | refine Later.drew ?_ | refine Later.drewN ?_ _ | refine Later.alloc ?_ _ | refine Later.put ?_ (by omega) _ | refine Later.trans ?_ (by assumption)))⟩
            case round =>
              obtain ⟨j, hj, rfl, hbj⟩ := hrel
              have D1g := D1f.later hbj
              have k7 : wr.cell? ⟨w.heap.size, 7, none⟩ = some (.slice ra rs.length rc) := D1g.cell 7
              have zk := D1g.lt
              by_cases hjl : j < rs.length
              · obtain ⟨b1', o1', rfl, y1⟩ := (hI.later hbj).at_ (k := j) (by rw [List.length_map]; exact hjl)
                rw [List.getElem_map] at y1
                obtain ⟨bR, oR, rfl, r0, r1, r2, r3, r4, r5, r6, _⟩ := (hrs.later (hw3.trans hbj)).at_ hjl
                have zr := World.block_lt_of_cell? _ _ r1
                have zy := World.block_lt_of_cell? _ _ y1
                have hj0 : (0 : Int) ≤ (j : Int) := by omega
                have hj1 : (j : Int) < (rs.length : Int) := by omega
                generalize rs[j] = r at *
                obtain ⟨rid, wq, rln, rtl, rta, rtb, rfa, rfc, rfl_⟩ := r
                simp only [] at y1 r0 r1 r2 r3 r4 r5 r6
                have dn : (rln != rln) = false := by simp
                go_upto_region 30 with fail
                go_quiet (fail)
                go_wp2
                go_roundw
                case rel => exact ⟨j + 1, by omega, by go_num, hbj.trans (by repeat' (with_reducible first | exact Later.refl _ | assumption | refine Later.drew ?_ | refine Later.drewN ?_ _ | refine Later.alloc ?_ _ | refine Later.put ?_ (by omega) _ | refine Later.trans ?_ (by assumption)))⟩
                case measure => simp [intOf]; omega
              · go_wp2_with (first | (go_at_call 17; (with_reducible refine (HX.out _).mono ?_); rintro e w10 ⟨rfl, hb10⟩))
                go_ret
                exact ⟨rfl, (hw3.trans hbj).trans (by repeat' (with_reducible first | exact Later.refl _ | assumption | refine Later.drew ?_ | refine Later.drewN ?_ _ | refine Later.alloc ?_ _ | refine Later.put ?_ (by omega) _ | refine Later.trans ?_ (by assumption)))⟩
  · have HL := Lib.hid (fun W (hW : Later w W) => law40_no c W (hc.later hW) hok)
    unfold C8.agg at HL ⊢
    clear hok
    obtain ⟨len, wd, rx, ry, s1, c1, sz, s2, c2, pl, qa, qc, ps, ra, rc, rs, la, lc, lots, aa, ac, plies⟩ := c
    simp only [] at HL ⊢
    go_enter Try.func7, Try.ntmps7
    go_wp2_with (first | (go_at_call 21; (with_reducible refine (HL.out _ (by repeat' (with_reducible first | exact Later.refl _ | assumption | refine Later.drew ?_ | refine Later.drewN ?_ _ | refine Later.alloc ?_ _ | refine Later.put ?_ (by omega) _ | refine Later.trans ?_ (by assumption)))).mono ?_); rintro e w2 ⟨l0, l1, l2, l3, A1, n1, d1, A2, n2, d2, A3, n3, d3, b0, b1, b2, b3, b4, rfl, hb2⟩) | (go_at_call 17; (with_reducible refine (HX.out _).mono ?_); rintro e w10 ⟨rfl, hb10⟩))
    go_ret
    exact ⟨rfl, (by repeat' (with_reducible first | exact Later.refl _ | assumption | refine Later.drew ?_ | refine Later.drewN ?_ _ | refine Later.alloc ?_ _ | refine Later.put ?_ (by omega) _ | refine Later.trans ?_ (by assumption)))⟩

end Go.Proofs.Ytpiniflhaokkaaa
