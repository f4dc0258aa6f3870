/-
 Reference 40: Of returns what the program's Of returns.
-/
import Derived.Test.YtdhakoecjmaebaaGreatZRefAd
namespace Go.Proofs.YtdhakoecjmaebaaGreat
open Go.RowKit
set_option linter.unusedSimpArgs false
set_option linter.unusedVariables false
theorem acc_polys {len wd : Int} {polys : List (List Pt)} {rs : List Rl} {lots : List Int} {ys : List Pl} (h : scheckR len wd polys rs lots ys = 0) : ∀ p ∈ polys, checkI p = 0 := by
 obtain ⟨a, _, _, _⟩ := scheck_iff.1 h
 obtain ⟨c1, _, _, _⟩ := cloth_zero a
 exact fun p hp => ((ext_zones c1).2 p hp).1
theorem dblQ_next {rs : List Rl} {l : List Qd} {k : Nat} (h : k < l.length) : dblQ rs (l.take (k + 1)) = dblQ rs (l.take k) + if hk : 0 < k then 2 * (endQ (l[k - 1]'(by omega)) - l[k].d) * wdOf rs (l[k - 1]'(by omega)) else 0 := by
 rcases k with _ | k
 ·rw [dblQ_one]; simp [dblQ]
 ·rw [dblQ_take h]; simp
set_option maxHeartbeats 16000000 in
set_option maxRecDepth 100000 in
theorem ref40_Of (Q C L S1 S2 P : Option Addr) (qc cc lc n1 c1 n2 c2 pc : Nat) (len wd rx ry : Int) (polys : List (List Pt)) (rs : List Rl) (lots : List Int) (ys : List Py) (w : World)
  (hps : Polys w Q polys) (hpl : ∀ p ∈ polys, p.length ≤ 1099511627776) (hr : Rolls w C rs) (hrl : rs.length ≤ 65536) (hL : Ints w L lots) (hll : lots.length ≤ 9223372036854775807) (hy : Plys w P ys) (hyl : ys.length ≤ 1099511627776) (hpart : ∀ y ∈ ys, y.parts.length ≤ 50) (hpn : polys.length ≤ 65536) (hqc : polys.length ≤ qc) :
  Calls Tryz.prog 21 #[.agg #[.int .i64 len, .int .i64 wd, .int .i64 rx, .int .i64 ry, .slice S1 n1 c1, .slice S2 n2 c2, .slice P ys.length pc], .slice C rs.length cc, .slice L lots.length lc, .slice Q polys.length qc] w
   (Ret (.tuple #[(accR len wd polys rs lots ys).1.agg, .int .i64 (accR len wd polys rs lots ys).2]) w) := by
 have HK := Lib.hid (fun W (hW : Later w W) => ref38_Check Q C L S1 S2 P qc cc lc n1 c1 n2 c2 pc len wd rx ry polys rs lots ys W (hps.later hW) hpl (hr.later hW) (by omega) (hL.later hW) hll (hy.later hW) hyl (fun y hy => by have := hpart y hy; omega))
 have HP := Lib.hid (fun (hck : ∀ p ∈ polys, checkI p = 0) W (hW : Later w W) => ref40_apart Q S1 S2 qc n1 c1 n2 c2 len wd rx ry polys W (hps.later hW) hck hpn)
 have Hb1 := Lib.hid (acc_bad1 (len := len) (wd := wd) (polys := polys) (rs := rs) (lots := lots) (ys := ys))
 have Hb2 := Lib.hid (acc_bad2 (len := len) (wd := wd) (polys := polys) (rs := rs) (lots := lots) (ys := ys))
 have Hb3 := Lib.hid (acc_of (len := len) (wd := wd) (polys := polys) (rs := rs) (lots := lots) (ys := ys))
 have Hpz := Lib.hid (acc_parts (len := len) (wd := wd) (polys := polys) (rs := rs) (lots := lots) (ys := ys))
 have Htz := Lib.hid (carried_tab (len := len) (wd := wd) (polys := polys) (rs := rs) (lots := lots) (ys := ys))
 have Hat := Lib.hid (areas_cover (len := len) (wd := wd) (polys := polys) (rs := rs) (lots := lots) (ys := ys.map Py.pl))
 have Hpo := Lib.hid (acc_polys (len := len) (wd := wd) (polys := polys) (rs := rs) (lots := lots) (ys := ys.map Py.pl))
 generalize accR len wd polys rs lots ys = R at *
 generalize scheckR len wd polys rs lots (ys.map Py.pl) = e1 at *
 generalize ckPolysR polys wd = e2 at *
 rcases Classical.em (e1 = 0) with h1 | h1
 ·subst h1
  obtain ⟨hB, hw, h40, h60, h20, hl0, hl1, hw0, hw1⟩ := Hpz.out rfl
  have ht0 := Htz.out rfl
  have hck := Hpo.out rfl
  have HP := Lib.hid (HP.out hck)
  rcases Classical.em (e2 = 0) with h2 | h2
  ·subst h2
   have HRv := Lib.hid (Hb3.out rfl rfl)
   have hat := Hat.out rfl rfl
   have Hck := Lib.hid hck
   have hat2 : 0 ≤ areaTot polys ∧ areaTot polys ≤ 2199023255552 := by
    have := two_bd (a := 2 * len) (b := wd) (M := 2097152) (N := 1048576) (by omega) ⟨hw0, hw1⟩ (by omega)
    have h0 : 0 ≤ areaTot polys := by
     have := sumHit_le true polys []
     have := sumHit_pos true polys []
     omega
    omega
   have HT := Lib.hid (fun W (hW : Later w W) => by
    have h := ref39_Table_ok P C Q S1 S2 pc cc qc n1 c1 n2 c2 len wd rx ry ys rs polys W (hy.later hW) (hr.later hW) (hps.later hW) hrl (fun y hy => by have := hpart y hy; omega) hpl h40 h60
    rw [ht0] at h
    exact h)
   have HB := Lib.hid hB
   have HW := Lib.hid hw
   clear Hb1 Hb2 Hb3 Hpz Htz Hat Hpo hat hck hB hw ht0
   go_enter Tryz.func21, Tryz.ntmps21
   go_upto_region 4 with (first | (go_at_call 42; (with_reducible refine (HK.out _ (by repeat' (with_reducible first | exact .refl _ | assumption | refine .drew ?_ | refine .drewN ?_ _ | refine .alloc ?_ _ | refine .put ?_ (by omega) _ | refine .trans ?_ (by assumption)))).mono ?_); rintro e w1 ⟨rfl, hb1⟩))
   have D1 : Blk w1 w.heap.size 70 #[.int .i64 len, .int .i64 wd, .int .i64 rx, .int .i64 ry, .slice S1 n1 c1, .slice S2 n2 c2, .slice P ys.length pc] := Blk.later (by repeat' (with_reducible first | assumption | (refine Blk.newAt ?_; simp; done) | refine Blk.alloc ?_ _ | refine Blk.drew ?_ | refine Blk.drewN ?_ _ | refine Blk.later ?_ (by assumption))) hb1
   have D8 : Blk w1 (w.heap.size + 1) 72 #[.int .i64 0, .int .i64 0, .int .i64 0, .int .i64 0, .int .i64 0] := Blk.later (by repeat' (with_reducible first | assumption | (refine Blk.newAt ?_; simp; done) | refine Blk.alloc ?_ _ | refine Blk.drew ?_ | refine Blk.drewN ?_ _ | refine Blk.later ?_ (by assumption))) hb1
   have hl1 : Later w w1 := (by repeat' (with_reducible first | exact .refl _ | assumption | refine .drew ?_ | refine .drewN ?_ _ | refine .alloc ?_ _ | refine .put ?_ (by omega) _ | refine .trans ?_ (by assumption)))
   clear hb1
   have hg8 : w.heap.size ≤ w.heap.size + 1 := by omega
   generalize w.heap.size + 1 = g8 at *
   have k0 : w1.cell? ⟨w.heap.size, 0, none⟩ = some (.int .i64 len) := D1.cell 0
   have k1 : w1.cell? ⟨w.heap.size, 1, none⟩ = some (.int .i64 wd) := D1.cell 1
   have k2 : w1.cell? ⟨w.heap.size, 2, none⟩ = some (.int .i64 rx) := D1.cell 2
   have k3 : w1.cell? ⟨w.heap.size, 3, none⟩ = some (.int .i64 ry) := D1.cell 3
   have k4 : w1.cell? ⟨w.heap.size, 4, none⟩ = some (.slice S1 n1 c1) := D1.cell 4
   have k5 : w1.cell? ⟨w.heap.size, 5, none⟩ = some (.slice S2 n2 c2) := D1.cell 5
   have k6 : w1.cell? ⟨w.heap.size, 6, none⟩ = some (.slice P ys.length pc) := D1.cell 6
   have zk := D1.lt
   go_upto_region 7 with (first | (go_at_call 43; (with_reducible refine (HP.out _ hl1).mono ?_); rintro e w2 ⟨rfl, hb2⟩))
   have D1b := D1.later hb2
   have D8b := D8.later hb2
   have hl2 := hl1.trans hb2
   clear hb2 k0 k1 k2 k3 k4 k5 k6 zk D1 D8
   have k0 : w2.cell? ⟨w.heap.size, 0, none⟩ = some (.int .i64 len) := D1b.cell 0
   have k1 : w2.cell? ⟨w.heap.size, 1, none⟩ = some (.int .i64 wd) := D1b.cell 1
   have k2 : w2.cell? ⟨w.heap.size, 2, none⟩ = some (.int .i64 rx) := D1b.cell 2
   have k3 : w2.cell? ⟨w.heap.size, 3, none⟩ = some (.int .i64 ry) := D1b.cell 3
   have k4 : w2.cell? ⟨w.heap.size, 4, none⟩ = some (.slice S1 n1 c1) := D1b.cell 4
   have k5 : w2.cell? ⟨w.heap.size, 5, none⟩ = some (.slice S2 n2 c2) := D1b.cell 5
   have k6 : w2.cell? ⟨w.heap.size, 6, none⟩ = some (.slice P ys.length pc) := D1b.cell 6
   have zk := D1b.lt
   go_upto_region 10 with (first | (go_at_call 44; (with_reducible refine (HT.out _ hl2).mono ?_); rintro e w3 (⟨_, A, ca, rfl, hca, hT, hb3⟩ | ⟨h, _⟩); rotate_left; exact absurd rfl h))
   have D1c := D1b.later hb3
   have D8c := D8b.later hb3
   have hl3 := hl2.trans hb3
   clear hb3 k0 k1 k2 k3 k4 k5 k6 zk D1b D8b hl1 hl2
   obtain ⟨rows, hrows⟩ : ∃ rows, rows = tabRows rs polys ys := ⟨_, rfl⟩
   have hrn : rows.length = ys.length := by rw [hrows]; simp [tabRows]
   have Hrr := Lib.hid (show ∀ k (h : k < ys.length) (h' : k < rows.length), rows[k] = hitRow rs polys ys[k] from fun k h h' => by subst hrows; simp [tabRows, hitRow])
   rw [← hrows] at hca hT ⊢
   clear hrows
   rw [hrn] at hca ⊢
   have Hrn := Lib.hid hrn
   clear hrn
   go_upto_region 12 with fail
   refine name_world (fun W4 hW4 => ?_)
   have hl4 : Later w3 W4 := by rw [hW4]; exact (by repeat' (with_reducible first | exact .refl _ | assumption | refine .drew ?_ | refine .drewN ?_ _ | refine .alloc ?_ _ | refine .put ?_ (by omega) _ | refine .trans ?_ (by assumption)))
   have D14 : Blk W4 w3.heap.size 72 #[.int .i64 0, .int .i64 0, .int .i64 0, .int .i64 0, .int .i64 0] := by rw [hW4]; exact (by repeat' (with_reducible first | assumption | (refine Blk.newAt ?_; simp; done) | refine Blk.alloc ?_ _ | refine Blk.drew ?_ | refine Blk.drewN ?_ _ | refine Blk.later ?_ (by assumption)))
   clear hW4
   have hg14 : w3.heap.size ≤ w3.heap.size := Nat.le_refl _
   obtain ⟨g14, hg⟩ : ∃ g14, w3.heap.size = g14 := ⟨_, rfl⟩
   rw [hg] at D14 ⊢
   have hg14 : w3.heap.size ≤ g14 := by omega
   have Hg := Lib.hid hg
   have hz8 := D8c.lt
   have hzl := D1c.lt
   clear hg
   go_loopw [15] (fun iv wr => ∃ (k : Nat) (t p d s : Int), k ≤ ys.length ∧ iv = .int .i64 k ∧ Hid (t = tknA rs (ys.take k)) ∧ Hid (p = hitA false rs polys (ys.take k)) ∧ Hid (d = hitA true rs polys (ys.take k)) ∧ Hid (s = dblA rs (ys.take k)) ∧ (-(879609302220800 * (k : Int)) ≤ t ∧ t ≤ 879609302220800 * (k : Int) ∧ -(879609302220800 * (k : Int)) ≤ s ∧ s ≤ 879609302220800 * (k : Int) ∧ 0 ≤ p ∧ p ≤ 2199023255552 * (k : Int) ∧ 0 ≤ d ∧ d ≤ 2199023255552 * (k : Int)) ∧ Blk wr g14 72 #[.int .i64 t, .int .i64 p, .int .i64 d, .int .i64 0, .int .i64 s] ∧ Later w3 wr) (fun iv _ => ys.length - (intOf iv).toNat)
   case atStart => exact ⟨0, 0, 0, 0, 0, by omega, rfl, Lib.hid rfl, Lib.hid rfl, Lib.hid rfl, Lib.hid rfl, by omega, D14, hl4⟩
   case round =>
    clear D14 hl4
    obtain ⟨k, t, p, d, s, hk, rfl, Ht, Hp, Hd, Hs, hbd, D, hb⟩ := hrel
    have k6 : wr.cell? ⟨w.heap.size, 6, none⟩ = some (.slice P ys.length pc) := (D1c.later hb).cell 6
    have zk := (D1c.later hb).lt
    by_cases hlt : k < ys.length
    ·obtain ⟨bp, op, rfl, e1, e2, hyk⟩ := (hy.later (hl3.trans hb)).at_ hlt
     have hpk := hpart _ (List.getElem_mem hlt)
     have HBk := Lib.hid (HB.out _ (List.getElem_mem hlt))
     have Hty := Lib.hid (tknA_take (rs := rs) hlt)
     have Hdy := Lib.hid (dblA_take (rs := rs) hlt)
     have Hp1 := Lib.hid (hitA_take (b := false) (rs := rs) (polys := polys) hlt)
     have Hd1 := Lib.hid (hitA_take (b := true) (rs := rs) (polys := polys) hlt)
     obtain ⟨bt, ot, A', ct, rfl, f1, f2, f3⟩ := hT.rowAt (k := k) (by rw [Hrn.out]; exact hlt)
     have hrow := Hrr.out k hlt (by rw [Hrn.out]; exact hlt)
     have hrl2 : (rows[k]'(by rw [Hrn.out]; exact hlt)).length = polys.length := by rw [hrow]; simp [hitRow]
     rw [← hrow] at Hp1 Hd1
     clear hrow
     have hokw : PyOk w ys[k] := by obtain ⟨_, _, _, _, _, h⟩ := hy.at_ hlt; exact h
     have hQ0 := hokw.2.2.1
     have hk0 : (0 : Int) ≤ (k : Int) := by omega
     have hk1 : (k : Int) < (ys.length : Int) := by omega
     generalize rows[k]'(by rw [Hrn.out]; exact hlt) = row at *
     generalize ys[k] = y at *
     obtain ⟨lot, pa, pc', parts⟩ := y
     simp only [] at e1 e2 hpk HBk Hty Hdy hQ0
     have zb := World.block_lt_of_cell? _ _ e2
     have Hf3 := Lib.hid f3
     rw [hrl2] at f1 f2
     have Hf1 := Lib.hid f1
     have hrl3 := Lib.hid hrl2
     clear hyk hokw f1 f3 hrl2
     go_upto_region 16 with fail
     clear k6 zk e1 e2 zb
     go_loopw [17] (fun jv wq => ∃ (j : Nat) (t' s' : Int), j ≤ parts.length ∧ jv = .int .i64 j ∧ Hid (t' = t + tknQ rs (parts.take j)) ∧ Hid (s' = s + dblQ rs (parts.take j)) ∧ -(879609302220800 * (k : Int) + 17592186044416 * (j : Int)) ≤ t' ∧ t' ≤ 879609302220800 * (k : Int) + 17592186044416 * (j : Int) ∧ -(879609302220800 * (k : Int) + 17592186044416 * (j : Int)) ≤ s' ∧ s' ≤ 879609302220800 * (k : Int) + 17592186044416 * (j : Int) ∧ Blk wq g14 72 #[.int .i64 t', .int .i64 p, .int .i64 d, .int .i64 0, .int .i64 s'] ∧ Later w3 wq) (fun jv _ => parts.length - (intOf jv).toNat)
     case atStart => exact ⟨0, t, s, by omega, rfl, Lib.hid (by simp [tknQ]), Lib.hid (by simp [dblQ]), by omega, by omega, by omega, by omega, D, hb⟩
     case round =>
      clear D hb
      obtain ⟨j, t', s', hj, rfl, Ht', Hs', b1, b2, b3, b4, D, hb⟩ := hrel
      by_cases hjl : j < parts.length
      ·obtain ⟨bb, ob, rfl, hx4⟩ := (hQ0.later (hl3.trans hb)) (by omega)
       obtain ⟨x0, x1, x2, x3⟩ := hx4.get hjl
       have zb := World.block_lt_of_cell? _ _ x1
       obtain ⟨a1, a2, a3, a4, a5, a6, a7⟩ := HBk.out _ (List.getElem_mem hjl)
       obtain ⟨n, hn'⟩ : ∃ n : Nat, parts[j].a = (n : Int) := ⟨parts[j].a.toNat, by omega⟩
       have hnr : n < rs.length := by omega
       obtain ⟨bR, oR, rfl, u0, u1, u2, u3, u4, u5, u6, _⟩ := (hr.later (hl3.trans hb)).at_ hnr
       have zr := World.block_lt_of_cell? _ _ u1
       obtain ⟨w1_, w2_⟩ := HW.out _ (List.getElem_mem hnr)
       have HT := Lib.hid (show t' + 2 * (parts[j].c - parts[j].b) * rs[n].wd = t + tknQ rs (parts.take (j + 1)) by
        rw [tknQ_take hjl, wdOf, hn', Int.toNat_natCast, grl_eq hnr, Ht'.out]; omega)
       have HD0 := Lib.hid (dblQ_next (rs := rs) hjl)
       by_cases hj0 : 0 < j
       ·obtain ⟨i, rfl⟩ : ∃ i, j = i + 1 := ⟨j - 1, by omega⟩
        have hil : i < parts.length := by omega
        obtain ⟨y0, y1_, y2, y3⟩ := hx4.get hil
        obtain ⟨p1_, p2_, p3_, p4_, p5_, p6_, p7_⟩ := HBk.out _ (List.getElem_mem hil)
        obtain ⟨m, hm'⟩ : ∃ m : Nat, parts[i].a = (m : Int) := ⟨parts[i].a.toNat, by omega⟩
        have hmr : m < rs.length := by omega
        obtain ⟨bR', oR', eR, v0_, v1_, v2_, v3_, v4_, v5_, v6_, _⟩ := (hr.later (hl3.trans hb)).at_ hmr
        cases eR
        obtain ⟨w3_, w4_⟩ := HW.out _ (List.getElem_mem hmr)
        have HD := Lib.hid (show s' + 2 * (endQ parts[i] - parts[i + 1].d) * rs[m].wd = s + dblQ rs (parts.take (i + 1 + 1)) by
         have h := HD0.out
         rw [dif_pos (by omega)] at h
         simp only [Nat.add_sub_cancel] at h
         rw [h, wdOf, hm', Int.toNat_natCast, grl_eq hmr, Hs'.out]; omega)
        have hqm : QdM parts[i] := by unfold QdM; omega
        have HE := Lib.hid (fun W => ref38_End parts[i] W hqm)
        clear HD0 hqm
        generalize hwp : (rs[m]).wd = wp at *
        generalize hwq : (rs[n]).wd = wq at *
        clear hwp hwq
        generalize parts[i + 1] = q at *
        generalize parts[i] = pz at *
        obtain ⟨qa', qb, qc', qd⟩ := q
        obtain ⟨pa_, pb, pc_, pd⟩ := pz
        have hex : endQ ⟨pa_, pb, pc_, pd⟩ = pd + pc_ - pb := rfl
        unfold Qd.agg at HE
        simp only [] at x0 x1 x2 x3 a1 a2 a3 a4 a5 a6 a7 hn' HT y0 y1_ y2 y3 p1_ p2_ p3_ p4_ p5_ p6_ p7_ hm' HD HE
        subst hn' hm'
        have hm1 := two_bd (a := 2 * (qc' - qb)) (b := wq) (M := 2097152) (N := 1048576) (by omega) ⟨w1_, w2_⟩ (by omega)
        obtain ⟨ex, hex2⟩ : ∃ ex, endQ ⟨(m : Int), pb, pc_, pd⟩ = ex := ⟨_, rfl⟩
        rw [hex2] at HD HE
        have hexb : ex = pd + pc_ - pb := by rw [← hex2]; rfl
        have hm2 := two_bd (a := 2 * (ex - qd)) (b := wp) (M := 6291456) (N := 1048576) (by omega) ⟨w3_, w4_⟩ (by omega)
        have hexb1 : -1048576 ≤ ex ∧ ex ≤ 3145728 := by omega
        clear hex hex2 hexb
        have ei : ((i + 1 : Nat) : Int) = (i : Int) + 1 := by omega
        have z1 : IntKind.i64.wrap (qc' - qb) = qc' - qb := IntWalk.i64_in _ (by omega)
        have z2 : IntKind.i64.wrap (2 * (qc' - qb)) = 2 * (qc' - qb) := IntWalk.i64_in _ (by omega)
        have z3 : IntKind.i64.wrap (2 * (qc' - qb) * wq) = 2 * (qc' - qb) * wq := IntWalk.i64_in _ (by omega)
        have z4 : IntKind.i64.wrap (t' + 2 * (qc' - qb) * wq) = t' + 2 * (qc' - qb) * wq := IntWalk.i64_in _ (by omega)
        have z5 : IntKind.i64.wrap ((i : Int) + 1 - 1) = (i : Int) := by rw [Int.add_sub_cancel]; exact IntWalk.i64_in _ (by omega)
        have z5' : IntKind.i64.wrap (i : Int) = (i : Int) := IntWalk.i64_in _ (by omega)
        have z6 : IntKind.i64.wrap (ex - qd) = ex - qd := IntWalk.i64_in _ (by omega)
        have z7 : IntKind.i64.wrap (2 * (ex - qd)) = 2 * (ex - qd) := IntWalk.i64_in _ (by omega)
        have z8 : IntKind.i64.wrap (2 * (ex - qd) * wp) = 2 * (ex - qd) * wp := IntWalk.i64_in _ (by omega)
        have z9 : IntKind.i64.wrap (s' + 2 * (ex - qd) * wp) = s' + 2 * (ex - qd) * wp := IntWalk.i64_in _ (by omega)
        have hi0 : (0 : Int) ≤ (i : Int) := by omega
        have hi1 : (i : Int) < (parts.length : Int) := by omega
        have hi2 : (0 : Int) ≤ (i : Int) + 1 := by omega
        have hi3 : (i : Int) + 1 < (parts.length : Int) := by omega
        have hi4 : (i : Int) + 1 > 0 := by omega
        have hmn0 : (0 : Int) ≤ (m : Int) := by omega
        have hmn1 : (m : Int) < (rs.length : Int) := by omega
        have hnn0 : (0 : Int) ≤ (n : Int) := by omega
        have hnn1 : (n : Int) < (rs.length : Int) := by omega
        have hng : bb ≠ g14 := by
         obtain ⟨bb', ob', e, hx⟩ := hQ0 (by omega)
         cases e
         have hbl : bb < w.heap.size := World.block_lt_of_cell? _ _ (hx.get hil).1
         have := hl3.size
         omega
        have hngR : bR ≠ g14 := by
         obtain ⟨bR'', oR'', e, h0, _⟩ := hr.at_ hmr
         cases e
         have hbl : bR < w.heap.size := World.block_lt_of_cell? _ _ h0
         have := hl3.size
         omega
        have q0 : wr.cell? ⟨g14, 0, none⟩ = some (.int .i64 t') := D.cell 0
        have q1 : wr.cell? ⟨g14, 1, none⟩ = some (.int .i64 p) := D.cell 1
        have q2 : wr.cell? ⟨g14, 2, none⟩ = some (.int .i64 d) := D.cell 2
        have q3 : wr.cell? ⟨g14, 3, none⟩ = some (.int .i64 0) := D.cell 3
        have q4 : wr.cell? ⟨g14, 4, none⟩ = some (.int .i64 s') := D.cell 4
        have r0 := D.frozen 0
        have r1 := D.frozen 1
        have r2 := D.frozen 2
        have r3 := D.frozen 3
        have r4 := D.frozen 4
        have zq := D.lt
        go_upto_region 18 with fail
        go_still_tail 26, (by kernel_rfl)
        change wpList _ _ _ _ _ (World.drew _)
        go_upto_region 19 with fail
        refine name_world (fun W18 hW18 => ?_)
        have D18 : Blk W18 g14 72 #[.int .i64 (t' + 2 * (qc' - qb) * wq), .int .i64 p, .int .i64 d, .int .i64 0, .int .i64 s'] := by rw [hW18]; exact (D.drew).set_ 0 _
        have hl18 : Later w3 W18 := by rw [hW18]; exact (hb.drew).put hg14 _
        have key18 : ∀ (b o : Nat), b ≠ g14 → W18.cell? ⟨b, o, none⟩ = wr.cell? ⟨b, o, none⟩ := fun b o hne => by
         rw [hW18]
         exact World.cell?_setCell_other _ _ _ _ (by intro e; injection e with e1 _; omega)
        have y0' : W18.cell? ⟨bb, ob + i * 4, none⟩ = some (.int .i64 (m : Int)) := (key18 _ _ hng).trans y0
        have y1' : W18.cell? ⟨bb, ob + i * 4 + 1, none⟩ = some (.int .i64 pb) := (key18 _ _ hng).trans y1_
        have y2' : W18.cell? ⟨bb, ob + i * 4 + 2, none⟩ = some (.int .i64 pc_) := (key18 _ _ hng).trans y2
        have y3' : W18.cell? ⟨bb, ob + i * 4 + 3, none⟩ = some (.int .i64 pd) := (key18 _ _ hng).trans y3
        have x3' : W18.cell? ⟨bb, ob + (i + 1) * 4 + 3, none⟩ = some (.int .i64 qd) := (key18 _ _ hng).trans x3
        have v1' : W18.cell? ⟨bR, oR + m * 7 + 1, none⟩ = some (.int .i64 wp) := (key18 _ _ hngR).trans v1_
        have zb' : bb < W18.heap.size := by rw [hW18]; simpa using zb
        have zr' : bR < W18.heap.size := by rw [hW18]; simpa using zr
        clear key18 hW18 x0 x1 x2 x3 y0 y1_ y2 y3 zb zr u0 u1 u2 u3 u4 u5 u6 v0_ v1_ v2_ v3_ v4_ v5_ v6_ q0 q1 q2 q3 q4 r0 r1 r2 r3 r4 zq D hb z1 z2 z3 z4
        go_upto_region 21 with fail
        refine name_world (fun W20 hW20 => ?_)
        have hl1820 : Later W18 W20 := by rw [hW20]; exact (by repeat' (with_reducible first | exact .refl _ | assumption | refine .drew ?_ | refine .drewN ?_ _ | refine .alloc ?_ _ | refine .put ?_ (by omega) _ | refine .trans ?_ (by assumption)))
        have A20 : Blk W20 W18.heap.size 92 #[.int .i64 (m : Int), .int .i64 pb, .int .i64 pc_, .int .i64 pd] := by rw [hW20]; exact (by repeat' (with_reducible first | assumption | (refine Blk.newAt ?_; simp; done) | refine Blk.alloc ?_ _ | refine Blk.drew ?_ | refine Blk.drewN ?_ _ | refine Blk.later ?_ (by assumption)))
        clear hW20
        have D20 := D18.later hl1820
        have hl20 := hl18.trans hl1820
        have x3 := hl1820.cell x3'
        have y1 := hl1820.cell v1'
        have zb := Nat.lt_of_lt_of_le zb' hl1820.size
        have zr := Nat.lt_of_lt_of_le zr' hl1820.size
        have a0 : W20.cell? ⟨W18.heap.size, 0, none⟩ = some (.int .i64 (m : Int)) := A20.cell 0
        have a1 : W20.cell? ⟨W18.heap.size, 1, none⟩ = some (.int .i64 pb) := A20.cell 1
        have a2 : W20.cell? ⟨W18.heap.size, 2, none⟩ = some (.int .i64 pc_) := A20.cell 2
        have a3 : W20.cell? ⟨W18.heap.size, 3, none⟩ = some (.int .i64 pd) := A20.cell 3
        have za := A20.lt
        have hga : W18.heap.size ≠ g14 := by have := D18.lt; omega
        clear y0' y1' y2' y3' x3' v1' zb' zr' D18 hl18 hl1820 A20
        generalize W18.heap.size = ga at *
        have hS : ∀ w' : World, Later W20 w' → (w'.cell? ⟨ga, 0, none⟩ = some (.int .i64 (m : Int)) ∧ w'.cell? ⟨ga, 1, none⟩ = some (.int .i64 pb) ∧ w'.cell? ⟨ga, 2, none⟩ = some (.int .i64 pc_) ∧ w'.cell? ⟨ga, 3, none⟩ = some (.int .i64 pd) ∧ w'.cell? ⟨bb, ob + (i + 1) * 4 + 3, none⟩ = some (.int .i64 qd) ∧ w'.cell? ⟨bR, oR + m * 7 + 1, none⟩ = some (.int .i64 wp) ∧ ga < w'.heap.size ∧ bb < w'.heap.size ∧ bR < w'.heap.size) := fun w' h => ⟨h.cell a0, h.cell a1, h.cell a2, h.cell a3, h.cell x3, h.cell y1, by have := h.size; omega, by have := h.size; omega, by have := h.size; omega⟩
        have HS := Lib.hid hS
        have hoff : ∀ w' : World, (w'.cell? ⟨ga, 0, none⟩ = some (.int .i64 (m : Int)) ∧ w'.cell? ⟨ga, 1, none⟩ = some (.int .i64 pb) ∧ w'.cell? ⟨ga, 2, none⟩ = some (.int .i64 pc_) ∧ w'.cell? ⟨ga, 3, none⟩ = some (.int .i64 pd) ∧ w'.cell? ⟨bb, ob + (i + 1) * 4 + 3, none⟩ = some (.int .i64 qd) ∧ w'.cell? ⟨bR, oR + m * 7 + 1, none⟩ = some (.int .i64 wp) ∧ ga < w'.heap.size ∧ bb < w'.heap.size ∧ bR < w'.heap.size) → ∀ w'' : World, w'' = w'.setCell ⟨g14, 4, none⟩ (.int .i64 (s' + 2 * (ex - qd) * wp)) → (w''.cell? ⟨ga, 0, none⟩ = some (.int .i64 (m : Int)) ∧ w''.cell? ⟨ga, 1, none⟩ = some (.int .i64 pb) ∧ w''.cell? ⟨ga, 2, none⟩ = some (.int .i64 pc_) ∧ w''.cell? ⟨ga, 3, none⟩ = some (.int .i64 pd) ∧ w''.cell? ⟨bb, ob + (i + 1) * 4 + 3, none⟩ = some (.int .i64 qd) ∧ w''.cell? ⟨bR, oR + m * 7 + 1, none⟩ = some (.int .i64 wp) ∧ ga < w''.heap.size ∧ bb < w''.heap.size ∧ bR < w''.heap.size) := fun w' h w'' e => by
         have key : ∀ (b o : Nat), b ≠ g14 → w''.cell? ⟨b, o, none⟩ = w'.cell? ⟨b, o, none⟩ := fun b o hb => by rw [e]; exact World.cell?_setCell_other _ _ _ _ (by intro e; injection e with e1 _; omega)
         have hz : w''.heap.size = w'.heap.size := by rw [e]; simp
         rw [key _ _ hga, key _ _ hga, key _ _ hga, key _ _ hga, key _ _ hng, key _ _ hngR, hz]
         exact h
        have Hoff := Lib.hid hoff
        clear hoff
        have q4 : W20.cell? ⟨g14, 4, none⟩ = some (.int .i64 s') := D20.cell 4
        have zq := D20.lt
        refine wp_region_held_drew (S := fun w' : World => w'.cell? ⟨ga, 0, none⟩ = some (.int .i64 (m : Int)) ∧ w'.cell? ⟨ga, 1, none⟩ = some (.int .i64 pb) ∧ w'.cell? ⟨ga, 2, none⟩ = some (.int .i64 pc_) ∧ w'.cell? ⟨ga, 3, none⟩ = some (.int .i64 pd) ∧ w'.cell? ⟨bb, ob + (i + 1) * 4 + 3, none⟩ = some (.int .i64 qd) ∧ w'.cell? ⟨bR, oR + m * 7 + 1, none⟩ = some (.int .i64 wp) ∧ ga < w'.heap.size ∧ bb < w'.heap.size ∧ bR < w'.heap.size) (by kernel_rfl) (hS _ (Later.refl _).drew) (fun hHeld => ?_)
        refine take_at (i := 0) (d := 100) (v := ?_) rfl rfl (by kernel_rfl) (by kernel_rfl) (by kernel_rfl) (fun _ _ _ h => h) (by rfl) ?_ (by assumption) ?_
        rotate_left
        ·(intro w hSw; (try dsimp only at hSw); go_simp; (try with_reducible rfl))
        simp only [Act.put, lsA, lsZ, lsS]
        refine take_at (i := 2) (d := 102) (v := ?_) rfl rfl (by kernel_rfl) (by kernel_rfl) (by kernel_rfl) (fun _ _ _ h => h) (by rfl) ?_ (by assumption) ?_
        rotate_left
        ·(intro w hSw; (try dsimp only at hSw); go_simp; (try with_reducible rfl))
        simp only [Act.put, lsA, lsZ, lsS]
        refine take_at (i := 4) (d := 104) (v := ?_) rfl rfl (by kernel_rfl) (by kernel_rfl) (by kernel_rfl) (fun _ _ _ h => h) (by rfl) ?_ (by assumption) ?_
        rotate_left
        ·(intro w hSw; (try dsimp only at hSw); go_simp; (try with_reducible rfl))
        simp only [Act.put, lsA, lsZ, lsS]
        refine take_at (i := 5) (d := 105) (v := ?_) rfl rfl (by kernel_rfl) (by kernel_rfl) (by kernel_rfl) (fun _ _ _ h => h) (by rfl) ?_ (by assumption) ?_
        rotate_left
        ·(intro w hSw; (try dsimp only at hSw); go_simp; (try with_reducible rfl))
        simp only [Act.put, lsA, lsZ, lsS]
        refine take_at (i := 6) (d := 106) (v := ?_) rfl rfl (by kernel_rfl) (by kernel_rfl) (by kernel_rfl) (fun _ _ _ h => h) (by rfl) ?_ (by assumption) ?_
        rotate_left
        ·(intro w hSw; (try dsimp only at hSw); go_simp; (try with_reducible rfl))
        simp only [Act.put, lsA, lsZ, lsS]
        refine take_at (i := 7) (d := 107) (v := ?_) rfl rfl (by kernel_rfl) (by kernel_rfl) (by kernel_rfl) (fun _ _ _ h => h) (by rfl) ?_ (by assumption) ?_
        rotate_left
        ·(intro w hSw; (try dsimp only at hSw); go_simp; (try with_reducible rfl))
        simp only [Act.put, lsA, lsZ, lsS]
        refine take_at (i := 8) (d := 108) (v := ?_) rfl rfl (by kernel_rfl) (by kernel_rfl) (by kernel_rfl) (fun _ _ _ h => h) (by rfl) ?_ (by assumption) ?_
        rotate_left
        ·(intro w hSw; (try dsimp only at hSw); go_simp; (try with_reducible rfl))
        simp only [Act.put, lsA, lsZ, lsS]
        refine take_at (i := 11) (d := 111) (v := ?_) rfl rfl (by kernel_rfl) (by kernel_rfl) (by kernel_rfl) (fun _ _ _ h => h) (by rfl) ?_ (by assumption) ?_
        rotate_left
        ·(intro w hSw; (try dsimp only at hSw); go_simp; (try with_reducible rfl))
        simp only [Act.put, lsA, lsZ, lsS]
        refine take_at (i := 12) (d := 112) (v := ?_) rfl rfl (by kernel_rfl) (by kernel_rfl) (by kernel_rfl) (fun _ _ _ h => h) (by rfl) ?_ (by assumption) ?_
        rotate_left
        ·(intro w hSw; (try dsimp only at hSw); go_simp; (try with_reducible rfl))
        simp only [Act.put, lsA, lsZ, lsS]
        refine take_at (i := 13) (d := 113) (v := ?_) rfl rfl (by kernel_rfl) (by kernel_rfl) (by kernel_rfl) (fun _ _ _ h => h) (by rfl) ?_ (by assumption) ?_
        rotate_left
        ·(intro w hSw; (try dsimp only at hSw); go_simp; (try with_reducible rfl))
        simp only [Act.put, lsA, lsZ, lsS]
        refine take_at (i := 14) (d := 114) (v := ?_) rfl rfl (by kernel_rfl) (by kernel_rfl) (by kernel_rfl) (fun _ _ _ h => h) (by rfl) ?_ (by assumption) ?_
        rotate_left
        ·(intro w hSw; (try dsimp only at hSw); go_simp; (try with_reducible rfl))
        simp only [Act.put, lsA, lsZ, lsS]
        refine take_at (i := 15) (d := 115) (v := ?_) rfl rfl (by kernel_rfl) (by kernel_rfl) (by kernel_rfl) (fun _ _ _ h => h) (by rfl) ?_ (by assumption) ?_
        rotate_left
        ·(intro w hSw; (try dsimp only at hSw); go_simp; (try with_reducible rfl))
        simp only [Act.put, lsA, lsZ, lsS]
        refine take_at (i := 16) (d := 116) (v := ?_) rfl rfl (by kernel_rfl) (by kernel_rfl) (by kernel_rfl) (fun _ _ _ h => h) (by rfl) ?_ (by assumption) ?_
        rotate_left
        ·(intro w hSw; (try dsimp only at hSw); go_simp; (try with_reducible rfl))
        simp only [Act.put, lsA, lsZ, lsS]
        clear hHeld hS a0 a1 a2 a3 x3 y1
        refine wpAnyH_ready (rs := [1, 3]) (by kernel_rfl) (by simp) (ready_val3 (i := 1) (d := 101) (v := .int .i64 s') (w' := W20.drew) rfl rfl (by rfl) (by go_simp) (HS.out _ (Later.refl _).drew) ?_ (ready_call (i := 3) (d := 103) (f := 45) (args := #[.agg #[.int .i64 (m : Int), .int .i64 pb, .int .i64 pc_, .int .i64 pd]]) rfl rfl (by rfl) (by go_simp) ?_ AllReadyH.nil))
        ·simp only [Act.put, lsA, lsZ, lsS]
         refine call_at (i := 3) (d := 103) (f := 45) (args := #[.agg #[.int .i64 (m : Int), .int .i64 pb, .int .i64 pc_, .int .i64 pd]]) (by kernel_rfl) rfl rfl (by rfl) (by go_simp) ?_
         refine (HE.out _).mono ?_
         rintro e w5 ⟨rfl, hb5⟩
         have hL5 : Later W20 w5 := (Later.refl _).drew.trans hb5
         refine ⟨_, rfl, HS.out _ hL5, fun hHeld => ?_⟩
         simp only [Act.put, lsA, lsZ, lsS]
         refine take_at (i := 9) (d := 109) (v := ?_) rfl rfl (by kernel_rfl) (by kernel_rfl) (by kernel_rfl) (fun _ _ _ h => h) (by rfl) ?_ (by assumption) ?_
         rotate_left
         ·(intro w hSw; (try dsimp only at hSw); go_simp; (try with_reducible rfl))
         simp only [Act.put, lsA, lsZ, lsS]
         refine take_at (i := 10) (d := 110) (v := ?_) rfl rfl (by kernel_rfl) (by kernel_rfl) (by kernel_rfl) (fun _ _ _ h => h) (by rfl) ?_ (by assumption) ?_
         rotate_left
         ·(intro w hSw; (try dsimp only at hSw); go_simp; (try with_reducible rfl))
         simp only [Act.put, lsA, lsZ, lsS]
         refine take_at (i := 17) (d := 117) (v := ?_) rfl rfl (by kernel_rfl) (by kernel_rfl) (by kernel_rfl) (fun _ _ _ h => h) (by rfl) ?_ (by assumption) ?_
         rotate_left
         ·(intro w hSw; (try dsimp only at hSw); go_simp; (try with_reducible rfl))
         simp only [Act.put, lsA, lsZ, lsS]
         refine take_at (i := 18) (d := 118) (v := ?_) rfl rfl (by kernel_rfl) (by kernel_rfl) (by kernel_rfl) (fun _ _ _ h => h) (by rfl) ?_ (by assumption) ?_
         rotate_left
         ·(intro w hSw; (try dsimp only at hSw); go_simp; (try with_reducible rfl))
         simp only [Act.put, lsA, lsZ, lsS]
         refine take_at (i := 19) (d := 119) (v := ?_) rfl rfl (by kernel_rfl) (by kernel_rfl) (by kernel_rfl) (fun _ _ _ h => h) (by rfl) ?_ (by assumption) ?_
         rotate_left
         ·(intro w hSw; (try dsimp only at hSw); go_simp; (try with_reducible rfl))
         simp only [Act.put, lsA, lsZ, lsS]
         have qx : w5.cell? ⟨g14, 4, none⟩ = some (.int .i64 s') := (D20.later hL5).cell 4
         have fx := (D20.later hL5).frozen 4
         have zx := (D20.later hL5).lt
         refine store_at (i := 20) (w' := w5.setCell ⟨g14, 4, none⟩ (.int .i64 (s' + 2 * (ex - qd) * wp))) (by kernel_rfl) rfl rfl (by rfl) (by go_simp) (Hoff.out _ (HS.out _ hL5) _ rfl) ?_
         clear qx fx zx
         refine wpAnyH_done (by kernel_rfl) ?_ _
         go_wp2_with fail
         have Dn := Lib.hid (show Blk (w5.setCell ⟨g14, 4, none⟩ (.int .i64 (s' + 2 * (ex - qd) * wp))) g14 72 #[.int .i64 (t' + 2 * (qc' - qb) * wq), .int .i64 p, .int .i64 d, .int .i64 0, .int .i64 (s' + 2 * (ex - qd) * wp)] from (D20.later hL5).set_ 4 _)
         have hln := Lib.hid (show Later w3 (w5.setCell ⟨g14, 4, none⟩ (.int .i64 (s' + 2 * (ex - qd) * wp))) from (hl20.trans hL5).put hg14 _)
         clear hHeld
         go_roundw
         case rel => exact ⟨i + 1 + 1, t' + 2 * (qc' - qb) * wq, s' + 2 * (ex - qd) * wp, by omega, by go_num, Lib.hid HT.out, Lib.hid HD.out, by omega, by omega, by omega, by omega, Dn.out.later (by repeat' (with_reducible first | exact .refl _ | assumption | refine .drew ?_ | refine .drewN ?_ _ | refine .alloc ?_ _ | refine .put ?_ (by omega) _ | refine .trans ?_ (by assumption))), hln.out.trans (by repeat' (with_reducible first | exact .refl _ | assumption | refine .drew ?_ | refine .drewN ?_ _ | refine .alloc ?_ _ | refine .put ?_ (by omega) _ | refine .trans ?_ (by assumption)))⟩
         case measure => simp [intOf]; omega
        ·refine (HE.out _).mono ?_
         rintro e w5 ⟨rfl, hb5⟩
         have hL5 : Later W20 w5 := (Later.refl _).drew.trans hb5
         have qx : w5.cell? ⟨g14, 4, none⟩ = some (.int .i64 s') := (D20.later hL5).cell 4
         have fx := (D20.later hL5).frozen 4
         have zx := (D20.later hL5).lt
         refine ⟨_, rfl, HS.out _ hL5, fun hHeld => ?_⟩
         simp only [Act.put, lsA, lsZ, lsS]
         refine take_at (i := 9) (d := 109) (v := ?_) rfl rfl (by kernel_rfl) (by kernel_rfl) (by kernel_rfl) (fun _ _ _ h => h) (by rfl) ?_ (by assumption) ?_
         rotate_left
         ·(intro w hSw; (try dsimp only at hSw); go_simp; (try with_reducible rfl))
         simp only [Act.put, lsA, lsZ, lsS]
         refine take_at (i := 10) (d := 110) (v := ?_) rfl rfl (by kernel_rfl) (by kernel_rfl) (by kernel_rfl) (fun _ _ _ h => h) (by rfl) ?_ (by assumption) ?_
         rotate_left
         ·(intro w hSw; (try dsimp only at hSw); go_simp; (try with_reducible rfl))
         simp only [Act.put, lsA, lsZ, lsS]
         refine take_at (i := 17) (d := 117) (v := ?_) rfl rfl (by kernel_rfl) (by kernel_rfl) (by kernel_rfl) (fun _ _ _ h => h) (by rfl) ?_ (by assumption) ?_
         rotate_left
         ·(intro w hSw; (try dsimp only at hSw); go_simp; (try with_reducible rfl))
         simp only [Act.put, lsA, lsZ, lsS]
         refine val_at (i := 1) (d := 101) (v := .int .i64 s') (w' := w5) (by kernel_rfl) rfl rfl (by rfl) (by go_simp) (HS.out _ hL5) ?_
         simp only [Act.put, lsA, lsZ, lsS]
         refine take_at (i := 18) (d := 118) (v := ?_) rfl rfl (by kernel_rfl) (by kernel_rfl) (by kernel_rfl) (fun _ _ _ h => h) (by rfl) ?_ (by assumption) ?_
         rotate_left
         ·(intro w hSw; (try dsimp only at hSw); go_simp; (try with_reducible rfl))
         simp only [Act.put, lsA, lsZ, lsS]
         refine take_at (i := 19) (d := 119) (v := ?_) rfl rfl (by kernel_rfl) (by kernel_rfl) (by kernel_rfl) (fun _ _ _ h => h) (by rfl) ?_ (by assumption) ?_
         rotate_left
         ·(intro w hSw; (try dsimp only at hSw); go_simp; (try with_reducible rfl))
         simp only [Act.put, lsA, lsZ, lsS]
         refine store_at (i := 20) (w' := w5.setCell ⟨g14, 4, none⟩ (.int .i64 (s' + 2 * (ex - qd) * wp))) (by kernel_rfl) rfl rfl (by rfl) (by go_simp) (Hoff.out _ (HS.out _ hL5) _ rfl) ?_
         clear qx fx zx
         refine wpAnyH_done (by kernel_rfl) ?_ _
         go_wp2_with fail
         have Dn := Lib.hid (show Blk (w5.setCell ⟨g14, 4, none⟩ (.int .i64 (s' + 2 * (ex - qd) * wp))) g14 72 #[.int .i64 (t' + 2 * (qc' - qb) * wq), .int .i64 p, .int .i64 d, .int .i64 0, .int .i64 (s' + 2 * (ex - qd) * wp)] from (D20.later hL5).set_ 4 _)
         have hln := Lib.hid (show Later w3 (w5.setCell ⟨g14, 4, none⟩ (.int .i64 (s' + 2 * (ex - qd) * wp))) from (hl20.trans hL5).put hg14 _)
         clear hHeld
         go_roundw
         case rel => exact ⟨i + 1 + 1, t' + 2 * (qc' - qb) * wq, s' + 2 * (ex - qd) * wp, by omega, by go_num, Lib.hid HT.out, Lib.hid HD.out, by omega, by omega, by omega, by omega, Dn.out.later (by repeat' (with_reducible first | exact .refl _ | assumption | refine .drew ?_ | refine .drewN ?_ _ | refine .alloc ?_ _ | refine .put ?_ (by omega) _ | refine .trans ?_ (by assumption))), hln.out.trans (by repeat' (with_reducible first | exact .refl _ | assumption | refine .drew ?_ | refine .drewN ?_ _ | refine .alloc ?_ _ | refine .put ?_ (by omega) _ | refine .trans ?_ (by assumption)))⟩
         case measure => simp [intOf]; omega
       ·have hj00 : j = 0 := by omega
        subst hj00
        have HD := Lib.hid (show s' = s + dblQ rs (parts.take (0 + 1)) by rw [HD0.out, dif_neg (by omega), Hs'.out]; omega)
        clear HD0
        generalize (rs[n]).wd = wq at *
        generalize parts[0] = q at *
        obtain ⟨qa', qb, qc', qd⟩ := q
        simp only [] at x0 x1 x2 x3 a1 a2 a3 a4 a5 a6 a7 hn' HT
        subst hn'
        simp only [Nat.zero_mul, Nat.add_zero] at x0 x1 x2 x3
        have hm1 := two_bd (a := 2 * (qc' - qb)) (b := wq) (M := 2097152) (N := 1048576) (by omega) ⟨w1_, w2_⟩ (by omega)
        have z1 : IntKind.i64.wrap (qc' - qb) = qc' - qb := IntWalk.i64_in _ (by omega)
        have z2 : IntKind.i64.wrap (2 * (qc' - qb)) = 2 * (qc' - qb) := IntWalk.i64_in _ (by omega)
        have z3 : IntKind.i64.wrap (2 * (qc' - qb) * wq) = 2 * (qc' - qb) * wq := IntWalk.i64_in _ (by omega)
        have z4 : IntKind.i64.wrap (t' + 2 * (qc' - qb) * wq) = t' + 2 * (qc' - qb) * wq := IntWalk.i64_in _ (by omega)
        have hnn0 : (0 : Int) ≤ (n : Int) := by omega
        have hnn1 : (n : Int) < (rs.length : Int) := by omega
        have hp0 : (0 : Int) < (parts.length : Int) := by omega
        have q0 : wr.cell? ⟨g14, 0, none⟩ = some (.int .i64 t') := D.cell 0
        have q1 : wr.cell? ⟨g14, 1, none⟩ = some (.int .i64 p) := D.cell 1
        have q2 : wr.cell? ⟨g14, 2, none⟩ = some (.int .i64 d) := D.cell 2
        have q3 : wr.cell? ⟨g14, 3, none⟩ = some (.int .i64 0) := D.cell 3
        have q4 : wr.cell? ⟨g14, 4, none⟩ = some (.int .i64 s') := D.cell 4
        have r0 := D.frozen 0
        have r1 := D.frozen 1
        have r2 := D.frozen 2
        have r3 := D.frozen 3
        have r4 := D.frozen 4
        have zq := D.lt
        go_upto_region 18 with fail
        go_still_tail 26, (by kernel_rfl)
        change wpList _ _ _ _ _ (World.drew _)
        go_upto_region 19 with fail
        refine name_world (fun W18 hW18 => ?_)
        have D18 := Lib.hid (show Blk W18 g14 72 #[.int .i64 (t' + 2 * (qc' - qb) * wq), .int .i64 p, .int .i64 d, .int .i64 0, .int .i64 s'] by rw [hW18]; exact (D.drew).set_ 0 _)
        have hl18 := Lib.hid (show Later w3 W18 by rw [hW18]; exact (hb.drew).put hg14 _)
        clear hW18 x0 x1 x2 x3 zb zr u0 u1 u2 u3 u4 u5 u6 q0 q1 q2 q3 q4 r0 r1 r2 r3 r4 zq D hb z1 z2 z3 z4
        go_wp2
        go_roundw
        case rel => exact ⟨0 + 1, t' + 2 * (qc' - qb) * wq, s', by omega, by go_num, HT, HD, by omega, by omega, by omega, by omega, D18.out.later (by repeat' (with_reducible first | exact .refl _ | assumption | refine .drew ?_ | refine .drewN ?_ _ | refine .alloc ?_ _ | refine .put ?_ (by omega) _ | refine .trans ?_ (by assumption))), hl18.out.trans (by repeat' (with_reducible first | exact .refl _ | assumption | refine .drew ?_ | refine .drewN ?_ _ | refine .alloc ?_ _ | refine .put ?_ (by omega) _ | refine .trans ?_ (by assumption)))⟩
        case measure => simp [intOf]; omega
      ·have hje : j = parts.length := by omega
       have hrt : parts.take j = parts := List.take_of_length_le (by omega)
       have Ht2 := Lib.hid (show t' = tknA rs (ys.take (k + 1)) by rw [Hty.out, ← Ht.out, Ht'.out, hrt])
       have Hs2 := Lib.hid (show s' = dblA rs (ys.take (k + 1)) by rw [Hdy.out, ← Hs.out, Hs'.out, hrt])
       clear hrt Hty Hdy Ht Hs Ht' Hs' hQ0 HBk
       have hbt : -(879609302220800 * ((k + 1 : Nat) : Int)) ≤ t' ∧ t' ≤ 879609302220800 * ((k + 1 : Nat) : Int) ∧ -(879609302220800 * ((k + 1 : Nat) : Int)) ≤ s' ∧ s' ≤ 879609302220800 * ((k + 1 : Nat) : Int) := by omega
       obtain ⟨_, _, _, _, hb5_, hb6_, hb7_, hb8_⟩ := hbd
       clear b1 b2 b3 b4 hje
       generalize t' = t at *
       generalize s' = s at *
       go_upto_region 23 with fail
       go_loopw [19] (fun jv wq => ∃ (j : Nat) (p' d' : Int), j ≤ polys.length ∧ jv = .int .i64 j ∧ Hid (p' = p + sumHit false polys (row.take j)) ∧ Hid (d' = d + sumHit true polys (row.take j)) ∧ Blk wq g14 72 #[.int .i64 t, .int .i64 p', .int .i64 d', .int .i64 0, .int .i64 s] ∧ Later w3 wq) (fun jv _ => polys.length - (intOf jv).toNat)
       case atStart => exact ⟨0, p, d, by omega, rfl, Lib.hid (by have e : ∀ b, sumHit b polys (row.take 0) = 0 := (fun b => by cases polys <;> rfl); rw [e]; omega), Lib.hid (by have e : ∀ b, sumHit b polys (row.take 0) = 0 := (fun b => by cases polys <;> rfl); rw [e]; omega), D, hb⟩
       case round =>
        clear D hb
        obtain ⟨j, p', d', hj, rfl, Hp', Hd', D, hb⟩ := hrel
        have sp1 := sumHit_pos false polys (row.take j)
        have sp2 := sumHit_le false polys (row.take j)
        have sd1 := sumHit_pos true polys (row.take j)
        have sd2 := sumHit_le true polys (row.take j)
        have hpv := Hp'.out
        have hdv := Hd'.out
        have f1' := hb.cell Hf1.out
        have zt := World.block_lt_of_cell? _ _ f1'
        by_cases hjl : j < polys.length
        ·have hjr : j < row.length := by rw [hrl3.out]; exact hjl
         have Hsp := Lib.hid (sumHit_take (b := false) (ps := polys) (r := row) (k := j) hjr hjl)
         have Hsd := Lib.hid (sumHit_take (b := true) (ps := polys) (r := row) (k := j) hjr hjl)
         obtain ⟨b', o', eA, hx⟩ := Hf3.out (by rw [hrl3.out]; omega)
         subst eA
         have hxj := hb.cell (hx j _ (List.getElem?_eq_getElem hjr))
         have zx := World.block_lt_of_cell? _ _ hxj
         clear hx
         obtain ⟨bq, oq, A4, c4, rfl, m1, m2, m3⟩ := (hps.later (hl3.trans hb)).at_ hjl
         have hbq : bq ≠ g14 := by
          obtain ⟨bq', oq', A5, c5, e, h0, _⟩ := hps.at_ hjl
          cases e
          have hbl : bq < w.heap.size := World.block_lt_of_cell? _ _ h0
          have := hl3.size
          omega
         have hqk := Hck.out _ (List.getElem_mem hjl)
         have hal := arA_le _ (List.getElem_mem hjl)
         have hap := arA_pos polys[j]
         have HA := Lib.hid (fun W (hW : Later wr W) => ref40_Area A4 c4 polys[j] W m2 (m3.later hW) hqk)
         have zq : bq < wr.heap.size := World.block_lt_of_cell? _ _ m1
         generalize arA polys[j] = ar at *
         generalize polys[j] = q at *
         have hj0 : (0 : Int) ≤ (j : Int) := by omega
         have hj1 : (j : Int) < (polys.length : Int) := by omega
         clear m3 hqk
         have hpb : 0 ≤ p' ∧ p' ≤ 2199023255552 * (k : Int) + 2199023255552 := by omega
         have hdb : 0 ≤ d' ∧ d' ≤ 2199023255552 * (k : Int) + 2199023255552 := by omega
         clear hpv hdv sp1 sp2 sd1 sd2
         have z1 : IntKind.i64.wrap (p' + ar) = p' + ar := IntWalk.i64_in _ (by omega)
         have z2 : IntKind.i64.wrap (d' + ar) = d' + ar := IntWalk.i64_in _ (by omega)
         have q1 : wr.cell? ⟨g14, 1, none⟩ = some (.int .i64 p') := D.cell 1
         have q2 : wr.cell? ⟨g14, 2, none⟩ = some (.int .i64 d') := D.cell 2
         have zd := D.lt
         generalize row[j]'hjr = x at *
         rcases x with _ | _
         ·go_upto_region 27 with fail
          clear f1' zt hxj zx
          have hS : ∀ w' : World, Later wr w' → (w'.cell? ⟨bq, oq + j, none⟩ = some (.slice A4 q.length c4) ∧ bq < w'.heap.size) := fun w' h => ⟨h.cell m1, by have := h.size; omega⟩
          have HS := Lib.hid hS
          have hoff : ∀ w' : World, w'.cell? ⟨bq, oq + j, none⟩ = some (.slice A4 q.length c4) ∧ bq < w'.heap.size → (w'.setCell ⟨g14, 1, none⟩ (.int .i64 (p' + ar))).cell? ⟨bq, oq + j, none⟩ = some (.slice A4 q.length c4) ∧ bq < (w'.setCell ⟨g14, 1, none⟩ (.int .i64 (p' + ar))).heap.size := fun w' h => ⟨by rw [World.cell?_setCell_other _ _ _ _ (by intro e; injection e with e1 _; omega)]; exact h.1, by simpa using h.2⟩
          have Hoff := Lib.hid hoff
          clear hoff
          refine wp_region_held_drew (S := fun w' : World => w'.cell? ⟨bq, oq + j, none⟩ = some (.slice A4 q.length c4) ∧ bq < w'.heap.size) (by kernel_rfl) (hS _ (Later.refl _).drew) (fun hHeld => ?_)
          refine take_at (i := 0) (d := 142) (v := ?_) rfl rfl (by kernel_rfl) (by kernel_rfl) (by kernel_rfl) (fun _ _ _ h => h) (by rfl) ?_ (by assumption) ?_
          rotate_left
          ·(intro w hSw; (try dsimp only at hSw); go_simp; (try with_reducible rfl))
          simp only [Act.put, lsA, lsZ, lsS]
          refine take_at (i := 2) (d := 144) (v := ?_) rfl rfl (by kernel_rfl) (by kernel_rfl) (by kernel_rfl) (fun _ _ _ h => h) (by rfl) ?_ (by assumption) ?_
          rotate_left
          ·(intro w hSw; (try dsimp only at hSw); go_simp; (try with_reducible rfl))
          simp only [Act.put, lsA, lsZ, lsS]
          refine take_at (i := 3) (d := 145) (v := ?_) rfl rfl (by kernel_rfl) (by kernel_rfl) (by kernel_rfl) (fun _ _ _ h => h) (by rfl) ?_ (by assumption) ?_
          rotate_left
          ·(intro w hSw; (try dsimp only at hSw); go_simp; (try with_reducible rfl))
          simp only [Act.put, lsA, lsZ, lsS]
          refine take_at (i := 4) (d := 146) (v := ?_) rfl rfl (by kernel_rfl) (by kernel_rfl) (by kernel_rfl) (fun _ _ _ h => h) (by rfl) ?_ (by assumption) ?_
          rotate_left
          ·(intro w hSw; (try dsimp only at hSw); go_simp; (try with_reducible rfl))
          simp only [Act.put, lsA, lsZ, lsS]
          refine take_at (i := 5) (d := 147) (v := ?_) rfl rfl (by kernel_rfl) (by kernel_rfl) (by kernel_rfl) (fun _ _ _ h => h) (by rfl) ?_ (by assumption) ?_
          rotate_left
          ·(intro w hSw; (try dsimp only at hSw); go_simp; (try with_reducible rfl))
          simp only [Act.put, lsA, lsZ, lsS]
          clear hHeld hS
          refine wpAnyH_ready (rs := [1, 6]) (by kernel_rfl) (by simp) (ready_val3 (i := 1) (d := 143) (v := .int .i64 p') (w' := wr.drew) rfl rfl (by rfl) (by go_simp) (HS.out _ (Later.refl _).drew) ?_ (ready_call (i := 6) (d := 148) (f := 46) (args := #[.slice A4 q.length c4]) rfl rfl (by rfl) (by go_simp) ?_ AllReadyH.nil))
          ·simp only [Act.put, lsA, lsZ, lsS]
           refine call_at (i := 6) (d := 148) (f := 46) (args := #[.slice A4 q.length c4]) (by kernel_rfl) rfl rfl (by rfl) (by go_simp) ?_
           refine (HA.out _ (Later.refl _).drew).mono ?_
           rintro e w5 ⟨rfl, hb5⟩
           have hL5 : Later wr w5 := (Later.refl _).drew.trans hb5
           refine ⟨_, rfl, HS.out _ hL5, fun hHeld => ?_⟩
           simp only [Act.put, lsA, lsZ, lsS]
           refine take_at (i := 7) (d := 149) (v := ?_) rfl rfl (by kernel_rfl) (by kernel_rfl) (by kernel_rfl) (fun _ _ _ h => h) (by rfl) ?_ (by assumption) ?_
           rotate_left
           ·(intro w hSw; (try dsimp only at hSw); go_simp; (try with_reducible rfl))
           simp only [Act.put, lsA, lsZ, lsS]
           refine take_at (i := 8) (d := 150) (v := ?_) rfl rfl (by kernel_rfl) (by kernel_rfl) (by kernel_rfl) (fun _ _ _ h => h) (by rfl) ?_ (by assumption) ?_
           rotate_left
           ·(intro w hSw; (try dsimp only at hSw); go_simp; (try with_reducible rfl))
           simp only [Act.put, lsA, lsZ, lsS]
           have qx : w5.cell? ⟨g14, 1, none⟩ = some (.int .i64 p') := (D.later hL5).cell 1
           have fx := (D.later hL5).frozen 1
           have zx := (D.later hL5).lt
           refine store_at (i := 9) (w' := w5.setCell ⟨g14, 1, none⟩ (.int .i64 (p' + ar))) (by kernel_rfl) rfl rfl (by rfl) (by go_simp) (Hoff.out _ (HS.out _ hL5)) ?_
           clear qx fx zx
           refine wpAnyH_done (by kernel_rfl) ?_ _
           go_wp2_with fail
           have Dn := Lib.hid (show Blk (w5.setCell ⟨g14, 1, none⟩ (.int .i64 (p' + ar))) g14 72 #[.int .i64 t, .int .i64 (p' + ar), .int .i64 d', .int .i64 0, .int .i64 s] from (D.later hL5).set_ 1 _)
           have hln := Lib.hid (show Later w3 (w5.setCell ⟨g14, 1, none⟩ (.int .i64 (p' + ar))) from (hb.trans hL5).put hg14 _)
           clear hHeld
           go_roundw
           case rel => exact ⟨j + 1, (p' + ar), d', by omega, by go_num, Lib.hid (by rw [Hsp.out, Hp'.out]; simp; try omega), Lib.hid (by rw [Hsd.out, Hd'.out]; simp; try omega), Dn.out.later (by repeat' (with_reducible first | exact .refl _ | assumption | refine .drew ?_ | refine .drewN ?_ _ | refine .alloc ?_ _ | refine .put ?_ (by omega) _ | refine .trans ?_ (by assumption))), hln.out.trans (by repeat' (with_reducible first | exact .refl _ | assumption | refine .drew ?_ | refine .drewN ?_ _ | refine .alloc ?_ _ | refine .put ?_ (by omega) _ | refine .trans ?_ (by assumption)))⟩
           case measure => simp [intOf]; omega
          ·refine (HA.out _ (Later.refl _).drew).mono ?_
           rintro e w5 ⟨rfl, hb5⟩
           have hL5 : Later wr w5 := (Later.refl _).drew.trans hb5
           have qx : w5.cell? ⟨g14, 1, none⟩ = some (.int .i64 p') := (D.later hL5).cell 1
           have fx := (D.later hL5).frozen 1
           have zx := (D.later hL5).lt
           refine ⟨_, rfl, HS.out _ hL5, fun hHeld => ?_⟩
           simp only [Act.put, lsA, lsZ, lsS]
           refine val_at (i := 1) (d := 143) (v := .int .i64 p') (w' := w5) (by kernel_rfl) rfl rfl (by rfl) (by go_simp) (HS.out _ hL5) ?_
           simp only [Act.put, lsA, lsZ, lsS]
           refine take_at (i := 7) (d := 149) (v := ?_) rfl rfl (by kernel_rfl) (by kernel_rfl) (by kernel_rfl) (fun _ _ _ h => h) (by rfl) ?_ (by assumption) ?_
           rotate_left
           ·(intro w hSw; (try dsimp only at hSw); go_simp; (try with_reducible rfl))
           simp only [Act.put, lsA, lsZ, lsS]
           refine take_at (i := 8) (d := 150) (v := ?_) rfl rfl (by kernel_rfl) (by kernel_rfl) (by kernel_rfl) (fun _ _ _ h => h) (by rfl) ?_ (by assumption) ?_
           rotate_left
           ·(intro w hSw; (try dsimp only at hSw); go_simp; (try with_reducible rfl))
           simp only [Act.put, lsA, lsZ, lsS]
           refine store_at (i := 9) (w' := w5.setCell ⟨g14, 1, none⟩ (.int .i64 (p' + ar))) (by kernel_rfl) rfl rfl (by rfl) (by go_simp) (Hoff.out _ (HS.out _ hL5)) ?_
           clear qx fx zx
           refine wpAnyH_done (by kernel_rfl) ?_ _
           go_wp2_with fail
           have Dn := Lib.hid (show Blk (w5.setCell ⟨g14, 1, none⟩ (.int .i64 (p' + ar))) g14 72 #[.int .i64 t, .int .i64 (p' + ar), .int .i64 d', .int .i64 0, .int .i64 s] from (D.later hL5).set_ 1 _)
           have hln := Lib.hid (show Later w3 (w5.setCell ⟨g14, 1, none⟩ (.int .i64 (p' + ar))) from (hb.trans hL5).put hg14 _)
           clear hHeld
           go_roundw
           case rel => exact ⟨j + 1, (p' + ar), d', by omega, by go_num, Lib.hid (by rw [Hsp.out, Hp'.out]; simp; try omega), Lib.hid (by rw [Hsd.out, Hd'.out]; simp; try omega), Dn.out.later (by repeat' (with_reducible first | exact .refl _ | assumption | refine .drew ?_ | refine .drewN ?_ _ | refine .alloc ?_ _ | refine .put ?_ (by omega) _ | refine .trans ?_ (by assumption))), hln.out.trans (by repeat' (with_reducible first | exact .refl _ | assumption | refine .drew ?_ | refine .drewN ?_ _ | refine .alloc ?_ _ | refine .put ?_ (by omega) _ | refine .trans ?_ (by assumption)))⟩
           case measure => simp [intOf]; omega
         ·go_upto_region 26 with fail
          clear f1' zt hxj zx
          have hS : ∀ w' : World, Later wr w' → (w'.cell? ⟨bq, oq + j, none⟩ = some (.slice A4 q.length c4) ∧ bq < w'.heap.size) := fun w' h => ⟨h.cell m1, by have := h.size; omega⟩
          have HS := Lib.hid hS
          have hoff : ∀ w' : World, w'.cell? ⟨bq, oq + j, none⟩ = some (.slice A4 q.length c4) ∧ bq < w'.heap.size → (w'.setCell ⟨g14, 2, none⟩ (.int .i64 (d' + ar))).cell? ⟨bq, oq + j, none⟩ = some (.slice A4 q.length c4) ∧ bq < (w'.setCell ⟨g14, 2, none⟩ (.int .i64 (d' + ar))).heap.size := fun w' h => ⟨by rw [World.cell?_setCell_other _ _ _ _ (by intro e; injection e with e1 _; omega)]; exact h.1, by simpa using h.2⟩
          have Hoff := Lib.hid hoff
          clear hoff
          refine wp_region_held_drew (S := fun w' : World => w'.cell? ⟨bq, oq + j, none⟩ = some (.slice A4 q.length c4) ∧ bq < w'.heap.size) (by kernel_rfl) (hS _ (Later.refl _).drew) (fun hHeld => ?_)
          refine take_at (i := 0) (d := 133) (v := ?_) rfl rfl (by kernel_rfl) (by kernel_rfl) (by kernel_rfl) (fun _ _ _ h => h) (by rfl) ?_ (by assumption) ?_
          rotate_left
          ·(intro w hSw; (try dsimp only at hSw); go_simp; (try with_reducible rfl))
          simp only [Act.put, lsA, lsZ, lsS]
          refine take_at (i := 2) (d := 135) (v := ?_) rfl rfl (by kernel_rfl) (by kernel_rfl) (by kernel_rfl) (fun _ _ _ h => h) (by rfl) ?_ (by assumption) ?_
          rotate_left
          ·(intro w hSw; (try dsimp only at hSw); go_simp; (try with_reducible rfl))
          simp only [Act.put, lsA, lsZ, lsS]
          refine take_at (i := 3) (d := 136) (v := ?_) rfl rfl (by kernel_rfl) (by kernel_rfl) (by kernel_rfl) (fun _ _ _ h => h) (by rfl) ?_ (by assumption) ?_
          rotate_left
          ·(intro w hSw; (try dsimp only at hSw); go_simp; (try with_reducible rfl))
          simp only [Act.put, lsA, lsZ, lsS]
          refine take_at (i := 4) (d := 137) (v := ?_) rfl rfl (by kernel_rfl) (by kernel_rfl) (by kernel_rfl) (fun _ _ _ h => h) (by rfl) ?_ (by assumption) ?_
          rotate_left
          ·(intro w hSw; (try dsimp only at hSw); go_simp; (try with_reducible rfl))
          simp only [Act.put, lsA, lsZ, lsS]
          refine take_at (i := 5) (d := 138) (v := ?_) rfl rfl (by kernel_rfl) (by kernel_rfl) (by kernel_rfl) (fun _ _ _ h => h) (by rfl) ?_ (by assumption) ?_
          rotate_left
          ·(intro w hSw; (try dsimp only at hSw); go_simp; (try with_reducible rfl))
          simp only [Act.put, lsA, lsZ, lsS]
          clear hHeld hS
          refine wpAnyH_ready (rs := [1, 6]) (by kernel_rfl) (by simp) (ready_val3 (i := 1) (d := 134) (v := .int .i64 d') (w' := wr.drew) rfl rfl (by rfl) (by go_simp) (HS.out _ (Later.refl _).drew) ?_ (ready_call (i := 6) (d := 139) (f := 46) (args := #[.slice A4 q.length c4]) rfl rfl (by rfl) (by go_simp) ?_ AllReadyH.nil))
          ·simp only [Act.put, lsA, lsZ, lsS]
           refine call_at (i := 6) (d := 139) (f := 46) (args := #[.slice A4 q.length c4]) (by kernel_rfl) rfl rfl (by rfl) (by go_simp) ?_
           refine (HA.out _ (Later.refl _).drew).mono ?_
           rintro e w5 ⟨rfl, hb5⟩
           have hL5 : Later wr w5 := (Later.refl _).drew.trans hb5
           refine ⟨_, rfl, HS.out _ hL5, fun hHeld => ?_⟩
           simp only [Act.put, lsA, lsZ, lsS]
           refine take_at (i := 7) (d := 140) (v := ?_) rfl rfl (by kernel_rfl) (by kernel_rfl) (by kernel_rfl) (fun _ _ _ h => h) (by rfl) ?_ (by assumption) ?_
           rotate_left
           ·(intro w hSw; (try dsimp only at hSw); go_simp; (try with_reducible rfl))
           simp only [Act.put, lsA, lsZ, lsS]
           refine take_at (i := 8) (d := 141) (v := ?_) rfl rfl (by kernel_rfl) (by kernel_rfl) (by kernel_rfl) (fun _ _ _ h => h) (by rfl) ?_ (by assumption) ?_
           rotate_left
           ·(intro w hSw; (try dsimp only at hSw); go_simp; (try with_reducible rfl))
           simp only [Act.put, lsA, lsZ, lsS]
           have qx : w5.cell? ⟨g14, 2, none⟩ = some (.int .i64 d') := (D.later hL5).cell 2
           have fx := (D.later hL5).frozen 2
           have zx := (D.later hL5).lt
           refine store_at (i := 9) (w' := w5.setCell ⟨g14, 2, none⟩ (.int .i64 (d' + ar))) (by kernel_rfl) rfl rfl (by rfl) (by go_simp) (Hoff.out _ (HS.out _ hL5)) ?_
           clear qx fx zx
           refine wpAnyH_done (by kernel_rfl) ?_ _
           go_wp2_with fail
           have Dn := Lib.hid (show Blk (w5.setCell ⟨g14, 2, none⟩ (.int .i64 (d' + ar))) g14 72 #[.int .i64 t, .int .i64 p', .int .i64 (d' + ar), .int .i64 0, .int .i64 s] from (D.later hL5).set_ 2 _)
           have hln := Lib.hid (show Later w3 (w5.setCell ⟨g14, 2, none⟩ (.int .i64 (d' + ar))) from (hb.trans hL5).put hg14 _)
           clear hHeld
           go_roundw
           case rel => exact ⟨j + 1, p', (d' + ar), by omega, by go_num, Lib.hid (by rw [Hsp.out, Hp'.out]; simp; try omega), Lib.hid (by rw [Hsd.out, Hd'.out]; simp; try omega), Dn.out.later (by repeat' (with_reducible first | exact .refl _ | assumption | refine .drew ?_ | refine .drewN ?_ _ | refine .alloc ?_ _ | refine .put ?_ (by omega) _ | refine .trans ?_ (by assumption))), hln.out.trans (by repeat' (with_reducible first | exact .refl _ | assumption | refine .drew ?_ | refine .drewN ?_ _ | refine .alloc ?_ _ | refine .put ?_ (by omega) _ | refine .trans ?_ (by assumption)))⟩
           case measure => simp [intOf]; omega
          ·refine (HA.out _ (Later.refl _).drew).mono ?_
           rintro e w5 ⟨rfl, hb5⟩
           have hL5 : Later wr w5 := (Later.refl _).drew.trans hb5
           have qx : w5.cell? ⟨g14, 2, none⟩ = some (.int .i64 d') := (D.later hL5).cell 2
           have fx := (D.later hL5).frozen 2
           have zx := (D.later hL5).lt
           refine ⟨_, rfl, HS.out _ hL5, fun hHeld => ?_⟩
           simp only [Act.put, lsA, lsZ, lsS]
           refine val_at (i := 1) (d := 134) (v := .int .i64 d') (w' := w5) (by kernel_rfl) rfl rfl (by rfl) (by go_simp) (HS.out _ hL5) ?_
           simp only [Act.put, lsA, lsZ, lsS]
           refine take_at (i := 7) (d := 140) (v := ?_) rfl rfl (by kernel_rfl) (by kernel_rfl) (by kernel_rfl) (fun _ _ _ h => h) (by rfl) ?_ (by assumption) ?_
           rotate_left
           ·(intro w hSw; (try dsimp only at hSw); go_simp; (try with_reducible rfl))
           simp only [Act.put, lsA, lsZ, lsS]
           refine take_at (i := 8) (d := 141) (v := ?_) rfl rfl (by kernel_rfl) (by kernel_rfl) (by kernel_rfl) (fun _ _ _ h => h) (by rfl) ?_ (by assumption) ?_
           rotate_left
           ·(intro w hSw; (try dsimp only at hSw); go_simp; (try with_reducible rfl))
           simp only [Act.put, lsA, lsZ, lsS]
           refine store_at (i := 9) (w' := w5.setCell ⟨g14, 2, none⟩ (.int .i64 (d' + ar))) (by kernel_rfl) rfl rfl (by rfl) (by go_simp) (Hoff.out _ (HS.out _ hL5)) ?_
           clear qx fx zx
           refine wpAnyH_done (by kernel_rfl) ?_ _
           go_wp2_with fail
           have Dn := Lib.hid (show Blk (w5.setCell ⟨g14, 2, none⟩ (.int .i64 (d' + ar))) g14 72 #[.int .i64 t, .int .i64 p', .int .i64 (d' + ar), .int .i64 0, .int .i64 s] from (D.later hL5).set_ 2 _)
           have hln := Lib.hid (show Later w3 (w5.setCell ⟨g14, 2, none⟩ (.int .i64 (d' + ar))) from (hb.trans hL5).put hg14 _)
           clear hHeld
           go_roundw
           case rel => exact ⟨j + 1, p', (d' + ar), by omega, by go_num, Lib.hid (by rw [Hsp.out, Hp'.out]; simp; try omega), Lib.hid (by rw [Hsd.out, Hd'.out]; simp; try omega), Dn.out.later (by repeat' (with_reducible first | exact .refl _ | assumption | refine .drew ?_ | refine .drewN ?_ _ | refine .alloc ?_ _ | refine .put ?_ (by omega) _ | refine .trans ?_ (by assumption))), hln.out.trans (by repeat' (with_reducible first | exact .refl _ | assumption | refine .drew ?_ | refine .drewN ?_ _ | refine .alloc ?_ _ | refine .put ?_ (by omega) _ | refine .trans ?_ (by assumption)))⟩
           case measure => simp [intOf]; omega
        ·have hje : j = polys.length := by omega
         have hrt : row.take j = row := List.take_of_length_le (by rw [hrl3.out]; omega)
         have Hp2 := Lib.hid (show p' = hitA false rs polys (ys.take (k + 1)) by rw [Hp1.out, ← Hp.out, Hp'.out, hrt])
         have Hd2 := Lib.hid (show d' = hitA true rs polys (ys.take (k + 1)) by rw [Hd1.out, ← Hd.out, Hd'.out, hrt])
         have hpb : 0 ≤ p' ∧ p' ≤ 2199023255552 * ((k + 1 : Nat) : Int) := by omega
         have hdb : 0 ≤ d' ∧ d' ≤ 2199023255552 * ((k + 1 : Nat) : Int) := by omega
         clear hpv hdv hrt sp1 sp2 sd1 sd2
         have hbb : (-(879609302220800 * ((k + 1 : Nat) : Int)) ≤ t ∧ t ≤ 879609302220800 * ((k + 1 : Nat) : Int) ∧ -(879609302220800 * ((k + 1 : Nat) : Int)) ≤ s ∧ s ≤ 879609302220800 * ((k + 1 : Nat) : Int) ∧ 0 ≤ p' ∧ p' ≤ 2199023255552 * ((k + 1 : Nat) : Int) ∧ 0 ≤ d' ∧ d' ≤ 2199023255552 * ((k + 1 : Nat) : Int)) := ⟨hbt.1, hbt.2.1, hbt.2.2.1, hbt.2.2.2, hpb.1, hpb.2, hdb.1, hdb.2⟩
         have Hbb := Lib.hid hbb
         have Hhb := Lib.hid hb
         have HDD := Lib.hid D
         clear hbb hbt hpb hdb D
         go_wp2
         go_roundw
         case rel => exact ⟨k + 1, t, p', d', s, by omega, by go_num, Ht2, Hp2, Hd2, Hs2, Hbb.out, HDD.out.later (by repeat' (with_reducible first | exact .refl _ | assumption | refine .drew ?_ | refine .drewN ?_ _ | refine .alloc ?_ _ | refine .put ?_ (by omega) _ | refine .trans ?_ (by assumption))), Hhb.out.trans (by repeat' (with_reducible first | exact .refl _ | assumption | refine .drew ?_ | refine .drewN ?_ _ | refine .alloc ?_ _ | refine .put ?_ (by omega) _ | refine .trans ?_ (by assumption)))⟩
         case measure => simp [intOf]; omega
    ·have hke : k = ys.length := by omega
     subst hke
     rw [List.take_length] at Ht Hp Hd Hs
     obtain ⟨hb1_, hb2_, hb3_, hb4_, hb5_, hb6_, hb7_, hb8_⟩ := hbd
     have D8d := D8c.later hb
     have q0 : wr.cell? ⟨g14, 0, none⟩ = some (.int .i64 t) := D.cell 0
     have q1 : wr.cell? ⟨g14, 1, none⟩ = some (.int .i64 p) := D.cell 1
     have q2 : wr.cell? ⟨g14, 2, none⟩ = some (.int .i64 d) := D.cell 2
     have q3 : wr.cell? ⟨g14, 3, none⟩ = some (.int .i64 0) := D.cell 3
     have q4 : wr.cell? ⟨g14, 4, none⟩ = some (.int .i64 s) := D.cell 4
     have r0 := D.frozen 0
     have r1 := D.frozen 1
     have r2 := D.frozen 2
     have r3 := D.frozen 3
     have r4 := D.frozen 4
     have zq := D.lt
     have z1 : IntKind.i64.wrap (t - s) = t - s := IntWalk.i64_in _ (by omega)
     have z2 : IntKind.i64.wrap (t - s - d) = t - s - d := IntWalk.i64_in _ (by omega)
     have z3 : IntKind.i64.wrap (t - s - d - p) = t - s - d - p := IntWalk.i64_in _ (by omega)
     have hgg := Hg.out
     go_upto_region 29 with fail
     refine name_world (fun W9 hW9 => ?_)
     have D9 : Blk W9 g14 72 #[.int .i64 t, .int .i64 p, .int .i64 d, .int .i64 (t - s - d - p), .int .i64 s] := by rw [hW9]; exact D.set_ 3 _
     have D8e : Blk W9 g8 72 #[.int .i64 0, .int .i64 0, .int .i64 0, .int .i64 0, .int .i64 0] := by rw [hW9]; exact D8d.far (by omega) _
     have hl9 : Later w W9 := by rw [hW9]; exact (hl3.trans hb).put (by have := hl3.size; omega) _
     clear hW9 q0 q1 q2 q3 q4 r0 r1 r2 r3 r4 zq k6 zk
     have u0 : W9.cell? ⟨g14, 0, none⟩ = some (.int .i64 t) := D9.cell 0
     have u1 : W9.cell? ⟨g14, 1, none⟩ = some (.int .i64 p) := D9.cell 1
     have u2 : W9.cell? ⟨g14, 2, none⟩ = some (.int .i64 d) := D9.cell 2
     have u3 : W9.cell? ⟨g14, 3, none⟩ = some (.int .i64 (t - s - d - p)) := D9.cell 3
     have u4 : W9.cell? ⟨g14, 4, none⟩ = some (.int .i64 s) := D9.cell 4
     have zu := D9.lt
     have q0 : W9.cell? ⟨g8, 0, none⟩ = some (.int .i64 0) := D8e.cell 0
     have q1 : W9.cell? ⟨g8, 1, none⟩ = some (.int .i64 0) := D8e.cell 1
     have q2 : W9.cell? ⟨g8, 2, none⟩ = some (.int .i64 0) := D8e.cell 2
     have q3 : W9.cell? ⟨g8, 3, none⟩ = some (.int .i64 0) := D8e.cell 3
     have q4 : W9.cell? ⟨g8, 4, none⟩ = some (.int .i64 0) := D8e.cell 4
     have r0 := D8e.frozen 0
     have r1 := D8e.frozen 1
     have r2 := D8e.frozen 2
     have r3 := D8e.frozen 3
     have r4 := D8e.frozen 4
     have zq := D8e.lt
     go_wp2
     refine bodyPost_ret (v := .tuple #[.agg #[.int .i64 t, .int .i64 p, .int .i64 d, .int .i64 (t - s - d - p), .int .i64 s], .int .i64 0]) (by simp [results, Tryz.results21, go_sem, q0, q1, q2, q3, q4]) rfl ?_
     refine ⟨?_, (by repeat' (with_reducible first | exact .refl _ | assumption | refine .drew ?_ | refine .drewN ?_ _ | refine .alloc ?_ _ | refine .put ?_ (by omega) _ | refine .trans ?_ (by assumption)))⟩
     rw [HRv.out]
     unfold Bal.agg balR
     simp only [← Ht.out, ← Hs.out, ← Hp.out, ← Hd.out]
  ·have HRv := Lib.hid (Hb2.out rfl h2)
   have dn : (e2 != 0) = true := by simpa using h2
   clear Hb1 Hb2 Hb3 Hpz Htz Hat Hpo hB hw ht0 hck
   go_enter Tryz.func21, Tryz.ntmps21
   go_upto_region 4 with (first | (go_at_call 42; (with_reducible refine (HK.out _ (by repeat' (with_reducible first | exact .refl _ | assumption | refine .drew ?_ | refine .drewN ?_ _ | refine .alloc ?_ _ | refine .put ?_ (by omega) _ | refine .trans ?_ (by assumption)))).mono ?_); rintro e w1 ⟨rfl, hb1⟩))
   have D1 : Blk w1 w.heap.size 70 #[.int .i64 len, .int .i64 wd, .int .i64 rx, .int .i64 ry, .slice S1 n1 c1, .slice S2 n2 c2, .slice P ys.length pc] := Blk.later (by repeat' (with_reducible first | assumption | (refine Blk.newAt ?_; simp; done) | refine Blk.alloc ?_ _ | refine Blk.drew ?_ | refine Blk.drewN ?_ _ | refine Blk.later ?_ (by assumption))) hb1
   have D8 : Blk w1 (w.heap.size + 1) 72 #[.int .i64 0, .int .i64 0, .int .i64 0, .int .i64 0, .int .i64 0] := Blk.later (by repeat' (with_reducible first | assumption | (refine Blk.newAt ?_; simp; done) | refine Blk.alloc ?_ _ | refine Blk.drew ?_ | refine Blk.drewN ?_ _ | refine Blk.later ?_ (by assumption))) hb1
   have hl1 : Later w w1 := (by repeat' (with_reducible first | exact .refl _ | assumption | refine .drew ?_ | refine .drewN ?_ _ | refine .alloc ?_ _ | refine .put ?_ (by omega) _ | refine .trans ?_ (by assumption)))
   clear hb1
   have hg8 : w.heap.size ≤ w.heap.size + 1 := by omega
   generalize w.heap.size + 1 = g8 at *
   have k0 : w1.cell? ⟨w.heap.size, 0, none⟩ = some (.int .i64 len) := D1.cell 0
   have k1 : w1.cell? ⟨w.heap.size, 1, none⟩ = some (.int .i64 wd) := D1.cell 1
   have k2 : w1.cell? ⟨w.heap.size, 2, none⟩ = some (.int .i64 rx) := D1.cell 2
   have k3 : w1.cell? ⟨w.heap.size, 3, none⟩ = some (.int .i64 ry) := D1.cell 3
   have k4 : w1.cell? ⟨w.heap.size, 4, none⟩ = some (.slice S1 n1 c1) := D1.cell 4
   have k5 : w1.cell? ⟨w.heap.size, 5, none⟩ = some (.slice S2 n2 c2) := D1.cell 5
   have k6 : w1.cell? ⟨w.heap.size, 6, none⟩ = some (.slice P ys.length pc) := D1.cell 6
   have zk := D1.lt
   go_upto_region 6 with (first | (go_at_call 43; (with_reducible refine (HP.out _ hl1).mono ?_); rintro e w2 ⟨rfl, hb2⟩))
   have D8b := D8.later hb2
   have hl2 := hl1.trans hb2
   clear hb2 k0 k1 k2 k3 k4 k5 k6 zk D1 D8
   have q0 : w2.cell? ⟨g8, 0, none⟩ = some (.int .i64 0) := D8b.cell 0
   have q1 : w2.cell? ⟨g8, 1, none⟩ = some (.int .i64 0) := D8b.cell 1
   have q2 : w2.cell? ⟨g8, 2, none⟩ = some (.int .i64 0) := D8b.cell 2
   have q3 : w2.cell? ⟨g8, 3, none⟩ = some (.int .i64 0) := D8b.cell 3
   have q4 : w2.cell? ⟨g8, 4, none⟩ = some (.int .i64 0) := D8b.cell 4
   have r0 := D8b.frozen 0
   have r1 := D8b.frozen 1
   have r2 := D8b.frozen 2
   have r3 := D8b.frozen 3
   have r4 := D8b.frozen 4
   have zq := D8b.lt
   go_wp2
   refine bodyPost_ret (v := .tuple #[.agg #[.int .i64 0, .int .i64 0, .int .i64 0, .int .i64 0, .int .i64 0], .int .i64 e2]) (by simp [results, Tryz.results21, go_sem, q0, q1, q2, q3, q4]) rfl ?_
   exact ⟨by rw [HRv.out]; rfl, (by repeat' (with_reducible first | exact .refl _ | assumption | refine .drew ?_ | refine .drewN ?_ _ | refine .alloc ?_ _ | refine .put ?_ (by omega) _ | refine .trans ?_ (by assumption)))⟩
 ·have HRv := Lib.hid (Hb1.out h1)
  have dn : (e1 != 0) = true := by simpa using h1
  clear Hb1 Hb2 Hb3 Hpz Htz Hat Hpo
  go_enter Tryz.func21, Tryz.ntmps21
  go_upto_region 3 with (first | (go_at_call 42; (with_reducible refine (HK.out _ (by repeat' (with_reducible first | exact .refl _ | assumption | refine .drew ?_ | refine .drewN ?_ _ | refine .alloc ?_ _ | refine .put ?_ (by omega) _ | refine .trans ?_ (by assumption)))).mono ?_); rintro e w1 ⟨rfl, hb1⟩))
  have D8 : Blk w1 (w.heap.size + 1) 72 #[.int .i64 0, .int .i64 0, .int .i64 0, .int .i64 0, .int .i64 0] := Blk.later (by repeat' (with_reducible first | assumption | (refine Blk.newAt ?_; simp; done) | refine Blk.alloc ?_ _ | refine Blk.drew ?_ | refine Blk.drewN ?_ _ | refine Blk.later ?_ (by assumption))) hb1
  have hl1 : Later w w1 := (by repeat' (with_reducible first | exact .refl _ | assumption | refine .drew ?_ | refine .drewN ?_ _ | refine .alloc ?_ _ | refine .put ?_ (by omega) _ | refine .trans ?_ (by assumption)))
  clear hb1
  have hg8 : w.heap.size ≤ w.heap.size + 1 := by omega
  generalize w.heap.size + 1 = g8 at *
  have q0 : w1.cell? ⟨g8, 0, none⟩ = some (.int .i64 0) := D8.cell 0
  have q1 : w1.cell? ⟨g8, 1, none⟩ = some (.int .i64 0) := D8.cell 1
  have q2 : w1.cell? ⟨g8, 2, none⟩ = some (.int .i64 0) := D8.cell 2
  have q3 : w1.cell? ⟨g8, 3, none⟩ = some (.int .i64 0) := D8.cell 3
  have q4 : w1.cell? ⟨g8, 4, none⟩ = some (.int .i64 0) := D8.cell 4
  have r0 := D8.frozen 0
  have r1 := D8.frozen 1
  have r2 := D8.frozen 2
  have r3 := D8.frozen 3
  have r4 := D8.frozen 4
  have zq := D8.lt
  go_wp2
  refine bodyPost_ret (v := .tuple #[.agg #[.int .i64 0, .int .i64 0, .int .i64 0, .int .i64 0, .int .i64 0], .int .i64 e1]) (by simp [results, Tryz.results21, go_sem, q0, q1, q2, q3, q4]) rfl ?_
  exact ⟨by rw [HRv.out]; rfl, (by repeat' (with_reducible first | exact .refl _ | assumption | refine .drew ?_ | refine .drewN ?_ _ | refine .alloc ?_ _ | refine .put ?_ (by omega) _ | refine .trans ?_ (by assumption)))⟩
end Go.Proofs.YtdhakoecjmaebaaGreat
