/-
 account.Of: the account of a lay.
-/
import Derived.Test.YtdhakoecjmaebaaGreatZAccA
import Derived.Test.YtdhakoecjmaebaaGreatZAccB
namespace Go.Proofs.YtdhakoecjmaebaaGreat
open Go.RowKit
set_option linter.unusedSimpArgs false
set_option linter.unusedVariables false
attribute [local go_sem] ite_min ite_max
@[go_sem] theorem bal_build0 (w : World) : (Instr.build 72 #[]).run Tryz.prog w = .ok (.agg #[.int .i64 0, .int .i64 0, .int .i64 0, .int .i64 0, .int .i64 0]) w := run_build w 72 _ _ (by kernel_rfl)
theorem Tab.rowAt {w : World} {A : Option Addr} {rows : List (List Bool)} (h : Tab w A rows) {k : Nat} (hk : k < rows.length) :
  ∃ b o A' c, A = some ⟨b, o, none⟩ ∧ w.cell? ⟨b, o + k, none⟩ = some (.slice A' rows[k].length c) ∧ rows[k].length ≤ c ∧ (0 < rows[k].length → ∃ b' o', A' = some ⟨b', o', none⟩ ∧ ∀ i x, rows[k][i]? = some x → w.cell? ⟨b', o' + i, none⟩ = some (.bool x)) := by
 obtain ⟨b, o, rfl, hr⟩ := h (by omega)
 obtain ⟨v, h1, A', c, rfl, h2, h3⟩ := hr k _ (List.getElem?_eq_getElem hk)
 exact ⟨b, o, A', c, rfl, h1, h2, h3⟩
section
variable {len wd : Int} {polys : List (List Pt)} {rs : List Rl} {lots : List Int} {ys : List Py}
theorem acc_bad1 (h : scheckR len wd polys rs lots (ys.map Py.pl) ≠ 0) : accR len wd polys rs lots ys = (⟨0, 0, 0, 0, 0⟩, scheckR len wd polys rs lots (ys.map Py.pl)) := by
 have e : accE len wd polys rs lots ys = scheckR len wd polys rs lots (ys.map Py.pl) := by unfold accE; rw [if_pos h]
 unfold accR
 rw [if_neg (by rw [e]; exact h), e]
theorem acc_bad2 (h : scheckR len wd polys rs lots (ys.map Py.pl) = 0) (h2 : ckPolysR polys wd ≠ 0) : accR len wd polys rs lots ys = (⟨0, 0, 0, 0, 0⟩, ckPolysR polys wd) := by
 have e : accE len wd polys rs lots ys = ckPolysR polys wd := by unfold accE; rw [if_neg (by simpa using h)]
 unfold accR
 rw [if_neg (by rw [e]; exact h2), e]
theorem acc_parts (h : scheckR len wd polys rs lots (ys.map Py.pl) = 0) : (∀ y ∈ ys, ∀ q ∈ y.parts, AccB rs.length q) ∧ (∀ r ∈ rs, 0 ≤ r.wd ∧ r.wd ≤ 1048576) ∧ ys.length ≤ 40 ∧ polys.length ≤ 60 ∧ rs.length ≤ 20 ∧ 0 ≤ len ∧ len ≤ 1048576 ∧ 0 ≤ wd ∧ wd ≤ 1048576 := by
 obtain ⟨a, b, c, d⟩ := scheck_iff.1 h
 obtain ⟨c1, c2, c3, c4⟩ := cloth_zero a
 obtain ⟨e1, e2, e3, _⟩ := ext_zero c1
 obtain ⟨r1, r2, r3⟩ := chkRolls_zero c2
 rw [List.length_map] at b
 refine ⟨fun y hy q hq => ?_, fun r hr => ?_, b, e3, r1, by omega, e2, by omega, c4⟩
 ·have hp : plyGo len wd polys rs lots y.lot none y.parts = 0 := c y.pl (List.mem_map_of_mem hy)
  obtain ⟨f1, f2, f3, _, _⟩ := ply_facts hp q hq
  obtain ⟨a1, a2, a3, a4, a5⟩ := clothB_in f1
  rw [grl_eq (by omega)] at a5
  have := (roll_ok (r2 _ (List.getElem_mem (show q.a.toNat < rs.length by omega)))).2.2.2.1
  unfold AccB
  omega
 ·have := (roll_ok (r2 r hr)).2.2.2.2
  omega
end
theorem tkn_bd {rs : List Rl} {l : List Qd} (hB : ∀ q ∈ l, AccB rs.length q) (hw : ∀ r ∈ rs, 0 ≤ r.wd ∧ r.wd ≤ 1048576) : -(17592186044416 * (l.length : Int)) ≤ tknQ rs l ∧ tknQ rs l ≤ 17592186044416 * (l.length : Int) := by
 induction l with
 | nil => exact ⟨Int.le_refl _, Int.le_refl _⟩
 | cons q l ih =>
  obtain ⟨a1, a2, a3, a4, a5, a6, a7⟩ := hB q (List.mem_cons_self ..)
  obtain ⟨i1, i2⟩ := ih (fun p hp => hB p (List.mem_cons_of_mem _ hp))
  have hg : 0 ≤ wdOf rs q ∧ wdOf rs q ≤ 1048576 := by
   unfold wdOf
   rw [grl_eq (by omega)]
   exact hw _ (List.getElem_mem _)
  have := two_bd (a := 2 * (q.c - q.b)) (b := wdOf rs q) (M := 2097152) (N := 1048576) (by omega) hg (by omega)
  rw [tknQ_cons, List.length_cons]
  omega
theorem dblGo_bd {rs : List Rl} (hw : ∀ r ∈ rs, 0 ≤ r.wd ∧ r.wd ≤ 1048576) : ∀ {l : List Qd} {p : Qd}, AccB rs.length p → (∀ q ∈ l, AccB rs.length q) → -(17592186044416 * (l.length : Int)) ≤ dblGo rs p l ∧ dblGo rs p l ≤ 17592186044416 * (l.length : Int) := by
 intro l
 induction l with
 | nil => intro p _ _; exact ⟨Int.le_refl _, Int.le_refl _⟩
 | cons q l ih =>
  intro p hp hB
  obtain ⟨a1, a2, a3, a4, a5, a6, a7⟩ := hB q (List.mem_cons_self ..)
  obtain ⟨p1, p2, p3, p4, p5, p6, p7⟩ := hp
  obtain ⟨i1, i2⟩ := ih (hB q (List.mem_cons_self ..)) (fun z hz => hB z (List.mem_cons_of_mem _ hz))
  have hg : 0 ≤ wdOf rs p ∧ wdOf rs p ≤ 1048576 := by
   unfold wdOf
   rw [grl_eq (by omega)]
   exact hw _ (List.getElem_mem _)
  have := two_bd (a := 2 * (endQ p - q.d)) (b := wdOf rs p) (M := 6291456) (N := 1048576) (by unfold endQ; omega) hg (by omega)
  rw [dblGo, List.length_cons]
  omega
theorem dbl_bd {rs : List Rl} {l : List Qd} (hB : ∀ q ∈ l, AccB rs.length q) (hw : ∀ r ∈ rs, 0 ≤ r.wd ∧ r.wd ≤ 1048576) : -(17592186044416 * (l.length : Int)) ≤ dblQ rs l ∧ dblQ rs l ≤ 17592186044416 * (l.length : Int) := by
 cases l with
 | nil => exact ⟨Int.le_refl _, Int.le_refl _⟩
 | cons p l =>
  have := dblGo_bd hw (hB p (List.mem_cons_self ..)) (fun q hq => hB q (List.mem_cons_of_mem _ hq))
  rw [dblQ, List.length_cons]
  omega
theorem tknA_take {rs : List Rl} {ys : List Py} {k : Nat} (h : k < ys.length) : tknA rs (ys.take (k + 1)) = tknA rs (ys.take k) + tknQ rs ys[k].parts := by
 unfold tknA
 rw [List.take_succ_eq_append_getElem h, List.map_append, List.sum_append]
 simp
theorem dblA_take {rs : List Rl} {ys : List Py} {k : Nat} (h : k < ys.length) : dblA rs (ys.take (k + 1)) = dblA rs (ys.take k) + dblQ rs ys[k].parts := by
 unfold dblA
 rw [List.take_succ_eq_append_getElem h, List.map_append, List.sum_append]
 simp
theorem hitA_take {b : Bool} {rs : List Rl} {polys : List (List Pt)} {ys : List Py} {k : Nat} (h : k < ys.length) : hitA b rs polys (ys.take (k + 1)) = hitA b rs polys (ys.take k) + sumHit b polys (hitRow rs polys ys[k]) := by
 unfold hitA
 rw [List.take_succ_eq_append_getElem h, List.map_append, List.sum_append]
 simp
theorem sumHit_le (b : Bool) : ∀ (ps : List (List Pt)) (r : List Bool), sumHit b ps r ≤ areaTot ps := by
 intro ps
 induction ps with
 | nil => intro r; exact Int.le_refl _
 | cons p ps ih =>
  intro r
  have hp := arA_pos p
  rw [areaTot_cons]
  cases r with
  | nil =>
   have := ih []
   have e : sumHit b ps [] = 0 := by cases ps <;> rfl
   show (0 : Int) ≤ _
   omega
  | cons x r =>
   have := ih r
   rw [sumHit]
   split <;> omega
theorem arA_le {ps : List (List Pt)} : ∀ p ∈ ps, arA p ≤ areaTot ps := by
 induction ps with
 | nil => intro p hp; cases hp
 | cons a l ih =>
  intro p hp
  have h0 : 0 ≤ areaTot l := by
   unfold areaTot
   clear ih hp
   induction l with
   | nil => exact Int.le_refl _
   | cons b l ih => have := arA_pos b; rw [List.map_cons, List.sum_cons]; omega
  have ha := arA_pos a
  rw [areaTot_cons]
  rcases List.mem_cons.1 hp with rfl | hp
  ·omega
  ·have := ih p hp; omega
set_option maxHeartbeats 8000000 in
set_option maxRecDepth 100000 in
theorem account_Of (Q C L S1 S2 P : Option Addr) (qc cc lc n1 c1 n2 c2 pc : Nat) (len wd rx ry : Int) (polys : List (List Pt)) (rs : List Rl) (lots : List Int) (ys : List Py) (w : World)
  (hps : Polys w Q polys) (hpl : ∀ p ∈ polys, p.length ≤ 1099511627776) (hr : Rolls w C rs) (hrl : rs.length ≤ 65536) (hL : Ints w L lots) (hll : lots.length ≤ 9223372036854775807) (hy : Plys w P ys) (hyl : ys.length ≤ 1099511627776) (hpart : ∀ y ∈ ys, y.parts.length ≤ 50) (hpn : polys.length ≤ 65536) (hqc : polys.length ≤ qc) :
  Calls Tryz.prog 20 #[.agg #[.int .i64 len, .int .i64 wd, .int .i64 rx, .int .i64 ry, .slice S1 n1 c1, .slice S2 n2 c2, .slice P ys.length pc], .slice C rs.length cc, .slice L lots.length lc, .slice Q polys.length qc] w
   (Ret (.tuple #[(accR len wd polys rs lots ys).1.agg, .int .i64 (accR len wd polys rs lots ys).2]) w) := by
 have HK := Lib.hid (fun W (hW : Later w W) => spread_Check Q C L S1 S2 P qc cc lc n1 c1 n2 c2 pc len wd rx ry polys rs lots ys W (hps.later hW) hpl (hr.later hW) (by omega) (hL.later hW) hll (hy.later hW) hyl (fun y hy => by have := hpart y hy; omega))
 have HP := Lib.hid (fun W (hW : Later w W) => account_checkPolys Q qc wd polys W (hps.later hW) hpl hpn hqc)
 have Hb1 := Lib.hid (acc_bad1 (len := len) (wd := wd) (polys := polys) (rs := rs) (lots := lots) (ys := ys))
 have Hb2 := Lib.hid (acc_bad2 (len := len) (wd := wd) (polys := polys) (rs := rs) (lots := lots) (ys := ys))
 have Hb3 := Lib.hid (acc_of (len := len) (wd := wd) (polys := polys) (rs := rs) (lots := lots) (ys := ys))
 have Hpz := Lib.hid (acc_parts (len := len) (wd := wd) (polys := polys) (rs := rs) (lots := lots) (ys := ys))
 have Htz := Lib.hid (carried_tab (len := len) (wd := wd) (polys := polys) (rs := rs) (lots := lots) (ys := ys))
 have Hat := Lib.hid (areas_cover (len := len) (wd := wd) (polys := polys) (rs := rs) (lots := lots) (ys := ys.map Py.pl))
 have Hcz := Lib.hid (ckPolys_zero (ps := polys) (W := wd))
 generalize accR len wd polys rs lots ys = R at *
 generalize scheckR len wd polys rs lots (ys.map Py.pl) = e1 at *
 generalize ckPolysR polys wd = e2 at *
 rcases Classical.em (e1 = 0) with h1 | h1
 ·subst h1
  obtain ⟨hB, hw, h40, h60, h20, hl0, hl1, hw0, hw1⟩ := Hpz.out rfl
  have ht0 := Htz.out rfl
  rcases Classical.em (e2 = 0) with h2 | h2
  ·subst h2
   have HRv := Lib.hid (Hb3.out rfl rfl)
   have hat := Hat.out rfl rfl
   have hcz := (Hcz.out rfl).1
   have Hck := Lib.hid (fun p hp => (hcz p hp).1)
   have hat2 : 0 ≤ areaTot polys ∧ areaTot polys ≤ 2199023255552 := by
    have := two_bd (a := 2 * len) (b := wd) (M := 2097152) (N := 1048576) (by omega) ⟨hw0, hw1⟩ (by omega)
    have h0 : 0 ≤ areaTot polys := by
     have := sumHit_le true polys []
     have := sumHit_pos true polys []
     omega
    omega
   have HT := Lib.hid (fun W (hW : Later w W) => by
    have h := damage_Table_ok P C Q S1 S2 pc cc qc n1 c1 n2 c2 len wd rx ry ys rs polys W (hy.later hW) (hr.later hW) (hps.later hW) hrl (fun y hy => by have := hpart y hy; omega) hpl h40 h60
    rw [ht0] at h
    exact h)
   have HB := Lib.hid hB
   have HW := Lib.hid hw
   clear Hb1 Hb2 Hb3 Hpz Htz Hat Hcz hat hcz hB hw ht0
   go_enter Tryz.func20, Tryz.ntmps20
   go_upto_region 4 with (first | (go_at_call 38; (with_reducible refine (HK.out _ (by repeat' (with_reducible first | exact .refl _ | assumption | refine .drew ?_ | refine .drewN ?_ _ | refine .alloc ?_ _ | refine .put ?_ (by omega) _ | refine .trans ?_ (by assumption)))).mono ?_); rintro e w1 ⟨rfl, hb1⟩))
   have D1 : Blk w1 w.heap.size 70 #[.int .i64 len, .int .i64 wd, .int .i64 rx, .int .i64 ry, .slice S1 n1 c1, .slice S2 n2 c2, .slice P ys.length pc] := Blk.later (by repeat' (with_reducible first | assumption | (refine Blk.newAt ?_; simp; done) | refine Blk.alloc ?_ _ | refine Blk.drew ?_ | refine Blk.drewN ?_ _ | refine Blk.later ?_ (by assumption))) hb1
   have D8 : Blk w1 (w.heap.size + 1) 72 #[.int .i64 0, .int .i64 0, .int .i64 0, .int .i64 0, .int .i64 0] := Blk.later (by repeat' (with_reducible first | assumption | (refine Blk.newAt ?_; simp; done) | refine Blk.alloc ?_ _ | refine Blk.drew ?_ | refine Blk.drewN ?_ _ | refine Blk.later ?_ (by assumption))) hb1
   have hl1 : Later w w1 := (by repeat' (with_reducible first | exact .refl _ | assumption | refine .drew ?_ | refine .drewN ?_ _ | refine .alloc ?_ _ | refine .put ?_ (by omega) _ | refine .trans ?_ (by assumption)))
   clear hb1
   have hg8 : w.heap.size ≤ w.heap.size + 1 := by omega
   generalize w.heap.size + 1 = g8 at *
   have k0 : w1.cell? ⟨w.heap.size, 0, none⟩ = some (.int .i64 len) := D1.cell 0
   have k1 : w1.cell? ⟨w.heap.size, 1, none⟩ = some (.int .i64 wd) := D1.cell 1
   have k2 : w1.cell? ⟨w.heap.size, 2, none⟩ = some (.int .i64 rx) := D1.cell 2
   have k3 : w1.cell? ⟨w.heap.size, 3, none⟩ = some (.int .i64 ry) := D1.cell 3
   have k4 : w1.cell? ⟨w.heap.size, 4, none⟩ = some (.slice S1 n1 c1) := D1.cell 4
   have k5 : w1.cell? ⟨w.heap.size, 5, none⟩ = some (.slice S2 n2 c2) := D1.cell 5
   have k6 : w1.cell? ⟨w.heap.size, 6, none⟩ = some (.slice P ys.length pc) := D1.cell 6
   have zk := D1.lt
   go_upto_region 7 with (first | (go_at_call 39; (with_reducible refine (HP.out _ hl1).mono ?_); rintro e w2 ⟨rfl, hb2⟩))
   have D1b := D1.later hb2
   have D8b := D8.later hb2
   have hl2 := hl1.trans hb2
   clear hb2 k0 k1 k2 k3 k4 k5 k6 zk D1 D8
   have k0 : w2.cell? ⟨w.heap.size, 0, none⟩ = some (.int .i64 len) := D1b.cell 0
   have k1 : w2.cell? ⟨w.heap.size, 1, none⟩ = some (.int .i64 wd) := D1b.cell 1
   have k2 : w2.cell? ⟨w.heap.size, 2, none⟩ = some (.int .i64 rx) := D1b.cell 2
   have k3 : w2.cell? ⟨w.heap.size, 3, none⟩ = some (.int .i64 ry) := D1b.cell 3
   have k4 : w2.cell? ⟨w.heap.size, 4, none⟩ = some (.slice S1 n1 c1) := D1b.cell 4
   have k5 : w2.cell? ⟨w.heap.size, 5, none⟩ = some (.slice S2 n2 c2) := D1b.cell 5
   have k6 : w2.cell? ⟨w.heap.size, 6, none⟩ = some (.slice P ys.length pc) := D1b.cell 6
   have zk := D1b.lt
   go_upto_region 10 with (first | (go_at_call 40; (with_reducible refine (HT.out _ hl2).mono ?_); rintro e w3 (⟨_, A, ca, rfl, hca, hT, hb3⟩ | ⟨h, _⟩); rotate_left; exact absurd rfl h))
   have D1c := D1b.later hb3
   have D8c := D8b.later hb3
   have hl3 := hl2.trans hb3
   clear hb3 k0 k1 k2 k3 k4 k5 k6 zk D1b D8b hl1 hl2
   have k6 : w3.cell? ⟨w.heap.size, 6, none⟩ = some (.slice P ys.length pc) := D1c.cell 6
   have zk := D1c.lt
   go_upto_region 12 with fail
   refine name_world (fun W4 hW4 => ?_)
   have hl4 : Later w3 W4 := by rw [hW4]; exact (by repeat' (with_reducible first | exact .refl _ | assumption | refine .drew ?_ | refine .drewN ?_ _ | refine .alloc ?_ _ | refine .put ?_ (by omega) _ | refine .trans ?_ (by assumption)))
   have D14 : Blk W4 w3.heap.size 72 #[.int .i64 0, .int .i64 0, .int .i64 0, .int .i64 0, .int .i64 0] := by rw [hW4]; exact (by repeat' (with_reducible first | assumption | (refine Blk.newAt ?_; simp; done) | refine Blk.alloc ?_ _ | refine Blk.drew ?_ | refine Blk.drewN ?_ _ | refine Blk.later ?_ (by assumption)))
   clear hW4 k6 zk
   have hg14 : w3.heap.size ≤ w3.heap.size := Nat.le_refl _
   generalize hg : w3.heap.size = g14 at D14 hg14 ⊢
   have Hg := Lib.hid hg
   clear hg hg14
   go_loopw [56] (fun iv wr => ∃ (k : Nat) (t s : Int), k ≤ ys.length ∧ iv = .int .i64 k ∧ t = tknA rs (ys.take k) ∧ s = dblA rs (ys.take k) ∧ -(879609302220800 * (k : Int)) ≤ t ∧ t ≤ 879609302220800 * (k : Int) ∧ -(879609302220800 * (k : Int)) ≤ s ∧ s ≤ 879609302220800 * (k : Int) ∧ Blk wr g14 72 #[.int .i64 t, .int .i64 0, .int .i64 0, .int .i64 0, .int .i64 s] ∧ Later w3 wr) (fun iv _ => ys.length - (intOf iv).toNat)
   case atStart => exact ⟨0, 0, 0, by omega, rfl, rfl, rfl, by omega, by omega, by omega, by omega, D14, hl4⟩
   case round =>
    clear D14 hl4
    obtain ⟨k, t, s, hk, rfl, ht, hs, b1, b2, b3, b4, D, hb⟩ := hrel
    have Ht := Lib.hid ht
    have Hs := Lib.hid hs
    clear ht hs
    by_cases hlt : k < ys.length
    ·obtain ⟨bp, op, rfl, e1, e2, hyk⟩ := (hy.later (hl3.trans hb)).at_ hlt
     have hpk := hpart _ (List.getElem_mem hlt)
     have hBk := HB.out _ (List.getElem_mem hlt)
     have Hty := Lib.hid (tknA_take (rs := rs) hlt)
     have Hdy := Lib.hid (dblA_take (rs := rs) hlt)
     have hk0 : (0 : Int) ≤ (k : Int) := by omega
     have hk1 : (k : Int) < (ys.length : Int) := by omega
     generalize ys[k] = y at *
     obtain ⟨lot, pa, pc', parts⟩ := y
     simp only [] at e1 e2 hyk hpk hBk Hty Hdy
     have hQ : Qds wr pa parts := hyk.2.2.1
     have zb := World.block_lt_of_cell? _ _ e2
     have HC := Lib.hid (fun W (hW : Later wr W) => account_cloth pa C pc' cc lot parts rs W (hQ.later hW) (hr.later ((hl3.trans hb).trans hW)) (by omega) hBk HW.out)
     have ht := tkn_bd hBk HW.out
     have hd := dbl_bd hBk HW.out
     generalize tknQ rs parts = tk at *
     generalize dblQ rs parts = dk at *
     clear hyk hBk hQ
     have v1 : IntKind.i64.wrap (t + tk) = t + tk := IntWalk.i64_in _ (by omega)
     have v2 : IntKind.i64.wrap (s + dk) = s + dk := IntWalk.i64_in _ (by omega)
     go_upto_region 15 with (first | (go_at_call 41; (with_reducible refine (HC.out _ (by repeat' (with_reducible first | exact .refl _ | assumption | refine .drew ?_ | refine .drewN ?_ _ | refine .alloc ?_ _ | refine .put ?_ (by omega) _ | refine .trans ?_ (by assumption)))).mono ?_); rintro e w5 ⟨rfl, hb5⟩))
     have hl5 : Later wr w5 := (by repeat' (with_reducible first | exact .refl _ | assumption | refine .drew ?_ | refine .drewN ?_ _ | refine .alloc ?_ _ | refine .put ?_ (by omega) _ | refine .trans ?_ (by assumption)))
     have D5 := D.later hl5
     clear hb5 e1 e2 zb
     have q0 : w5.cell? ⟨g14, 0, none⟩ = some (.int .i64 t) := D5.cell 0
     have q1 : w5.cell? ⟨g14, 1, none⟩ = some (.int .i64 0) := D5.cell 1
     have q2 : w5.cell? ⟨g14, 2, none⟩ = some (.int .i64 0) := D5.cell 2
     have q3 : w5.cell? ⟨g14, 3, none⟩ = some (.int .i64 0) := D5.cell 3
     have q4 : w5.cell? ⟨g14, 4, none⟩ = some (.int .i64 s) := D5.cell 4
     have r0 := D5.frozen 0
     have r1 := D5.frozen 1
     have r2 := D5.frozen 2
     have r3 := D5.frozen 3
     have r4 := D5.frozen 4
     have zq := D5.lt
     go_upto_region 17 with fail
     refine name_world (fun W7 hW7 => ?_)
     have D7 : Blk W7 g14 72 #[.int .i64 (t + tk), .int .i64 0, .int .i64 0, .int .i64 0, .int .i64 (s + dk)] := by rw [hW7]; exact (D5.set_ 0 _).set_ 4 _
     have hl7 : Later w3 W7 := by rw [hW7]; exact ((hb.trans hl5).put (by have := Hg.out; omega) _).put (by have := Hg.out; omega) _
     clear hW7
     go_wp2
     go_roundw
     case rel => exact ⟨k + 1, t + tk, s + dk, by omega, by go_num, by rw [Hty.out, ← Ht.out], by rw [Hdy.out, ← Hs.out], by omega, by omega, by omega, by omega, D7.later (by repeat' (with_reducible first | exact .refl _ | assumption | refine .drew ?_ | refine .drewN ?_ _ | refine .alloc ?_ _ | refine .put ?_ (by omega) _ | refine .trans ?_ (by assumption))), hl7.trans (by repeat' (with_reducible first | exact .refl _ | assumption | refine .drew ?_ | refine .drewN ?_ _ | refine .alloc ?_ _ | refine .put ?_ (by omega) _ | refine .trans ?_ (by assumption)))⟩
     case measure => simp [intOf]; omega
    ·have hke : k = ys.length := by omega
     subst hke
     rw [List.take_length] at Ht Hs
     obtain ⟨rows, hrows⟩ : ∃ rows, rows = tabRows rs polys ys := ⟨_, rfl⟩
     have hrn : rows.length = ys.length := by rw [hrows]; simp [tabRows]
     have Hrr := Lib.hid (show ∀ k (h : k < ys.length) (h' : k < rows.length), rows[k] = hitRow rs polys ys[k] from fun k h h' => by subst hrows; simp [tabRows, hitRow])
     rw [← hrows] at hca hT ⊢
     clear hrows
     have hn0 : ys.length ≤ 40 := h40
     rw [hrn] at hca ⊢
     go_upto_region 19 with fail
     go_loopw [79] (fun iv wq => ∃ (k : Nat) (p d : Int), k ≤ ys.length ∧ iv = .int .i64 k ∧ p = hitA false rs polys (ys.take k) ∧ d = hitA true rs polys (ys.take k) ∧ 0 ≤ p ∧ p ≤ 2199023255552 * (k : Int) ∧ 0 ≤ d ∧ d ≤ 2199023255552 * (k : Int) ∧ Blk wq g14 72 #[.int .i64 t, .int .i64 p, .int .i64 d, .int .i64 0, .int .i64 s] ∧ Later w3 wq) (fun iv _ => ys.length - (intOf iv).toNat)
     case atStart => exact ⟨0, 0, 0, by omega, rfl, rfl, rfl, by omega, by omega, by omega, by omega, D, hb⟩
     case round =>
      clear D hb hlt hk
      obtain ⟨k, p, d, hk, rfl, hp, hd, p1, p2, d1, d2, D, hb⟩ := hrel
      have Hp := Lib.hid hp
      have Hd := Lib.hid hd
      clear hp hd
      by_cases hlt : k < ys.length
      ·obtain ⟨bt, ot, A', ct, rfl, f1, f2, f3⟩ := hT.rowAt (k := k) (by omega)
       have hrow := Hrr.out k hlt (by omega)
       have Hp1 := Lib.hid (hitA_take (b := false) (rs := rs) (polys := polys) hlt)
       have Hd1 := Lib.hid (hitA_take (b := true) (rs := rs) (polys := polys) hlt)
       rw [← hrow] at Hp1 Hd1
       have hrl2 : (rows[k]'(by omega)).length = polys.length := by rw [hrow]; simp [hitRow]
       clear hrow
       have hk0 : (0 : Int) ≤ (k : Int) := by omega
       have hk1 : (k : Int) < (ys.length : Int) := by omega
       generalize rows[k]'(by omega) = row at *
       have f1' := hb.cell f1
       have zb := World.block_lt_of_cell? _ _ f1'
       have Hf3 := Lib.hid f3
       clear f1 f3
       rw [hrl2] at f1' f2
       go_upto_region 22 with fail
       go_loopw [85] (fun jv wq => ∃ (j : Nat) (p' d' : Int), j ≤ polys.length ∧ jv = .int .i64 j ∧ p' = p + sumHit false polys (row.take j) ∧ d' = d + sumHit true polys (row.take j) ∧ Blk wq g14 72 #[.int .i64 t, .int .i64 p', .int .i64 d', .int .i64 0, .int .i64 s] ∧ Later w3 wq) (fun jv _ => polys.length - (intOf jv).toNat)
       case atStart => exact ⟨0, p, d, by omega, rfl, by have e : ∀ b, sumHit b polys (row.take 0) = 0 := (fun b => by cases polys <;> rfl); rw [e]; omega, by have e : ∀ b, sumHit b polys (row.take 0) = 0 := (fun b => by cases polys <;> rfl); rw [e]; omega, D, hb⟩
       case round =>
        clear D hb f1' zb
        obtain ⟨j, p', d', hj, rfl, hp', hd', D, hb⟩ := hrel
        have sp1 := sumHit_pos false polys (row.take j)
        have sp2 := sumHit_le false polys (row.take j)
        have sd1 := sumHit_pos true polys (row.take j)
        have sd2 := sumHit_le true polys (row.take j)
        by_cases hjl : j < polys.length
        ·have Hsp := Lib.hid (sumHit_take (b := false) (ps := polys) (r := row) (k := j) (by omega) hjl)
         have Hsd := Lib.hid (sumHit_take (b := true) (ps := polys) (r := row) (k := j) (by omega) hjl)
         obtain ⟨b', o', eA, hx⟩ := Hf3.out (by omega)
         subst eA
         have hxj := hb.cell (hx j _ (List.getElem?_eq_getElem (show j < row.length by omega)))
         have zx := World.block_lt_of_cell? _ _ hxj
         clear hx
         obtain ⟨bq, oq, A4, c4, rfl, m1, m2, m3⟩ := (hps.later (hl3.trans hb)).at_ hjl
         have hqn := hpl _ (List.getElem_mem hjl)
         have hqk := Hck.out _ (List.getElem_mem hjl)
         have hal := arA_le _ (List.getElem_mem hjl)
         have hap := arA_pos polys[j]
         have HA := Lib.hid (fun W (hW : Later wr W) => polygon_Area2 A4 c4 polys[j] W hqn m2 (m3.later hW) hqk)
         have zq := World.block_lt_of_cell? _ _ m1
         have ha0 : arA polys[j] = max (areaI polys[j]) (-(areaI polys[j])) := rfl
         generalize arA polys[j] = ar at *
         generalize areaI polys[j] = a at *
         generalize polys[j] = q at *
         have ha1 : -2199023255552 ≤ a ∧ a ≤ 2199023255552 := by omega
         have v1 : IntKind.i64.wrap (-a) = -a := IntWalk.i64_in _ (by omega)
         have hj0 : (0 : Int) ≤ (j : Int) := by omega
         have hj1 : (j : Int) < (polys.length : Int) := by omega
         clear m3
         generalize sumHit false polys (row.take j) = up at *
         generalize sumHit true polys (row.take j) = ud at *
         have hpb : 0 ≤ p' ∧ p' ≤ 2199023255552 * (k : Int) + 2199023255552 := by omega
         have hdb : 0 ≤ d' ∧ d' ≤ 2199023255552 * (k : Int) + 2199023255552 := by omega
         have Hp' := Lib.hid hp'
         have Hd' := Lib.hid hd'
         clear hp' hd' sp1 sp2 sd1 sd2
         generalize row[j]'(by omega) = x at *
         go_upto_region 25 with (first | (go_at_call 14; (with_reducible refine (HA.out _ (by repeat' (with_reducible first | exact .refl _ | assumption | refine .drew ?_ | refine .drewN ?_ _ | refine .alloc ?_ _ | refine .put ?_ (by omega) _ | refine .trans ?_ (by assumption)))).mono ?_); rintro e w5 ⟨rfl, hb5⟩))
         have hl5 : Later wr w5 := (by repeat' (with_reducible first | exact .refl _ | assumption | refine .drew ?_ | refine .drewN ?_ _ | refine .alloc ?_ _ | refine .put ?_ (by omega) _ | refine .trans ?_ (by assumption)))
         have D5 := D.later hl5
         clear hb5 hxj zx m1 zq
         have q0 : w5.cell? ⟨g14, 0, none⟩ = some (.int .i64 t) := D5.cell 0
         have q1 : w5.cell? ⟨g14, 1, none⟩ = some (.int .i64 p') := D5.cell 1
         have q2 : w5.cell? ⟨g14, 2, none⟩ = some (.int .i64 d') := D5.cell 2
         have q3 : w5.cell? ⟨g14, 3, none⟩ = some (.int .i64 0) := D5.cell 3
         have q4 : w5.cell? ⟨g14, 4, none⟩ = some (.int .i64 s) := D5.cell 4
         have r0 := D5.frozen 0
         have r1 := D5.frozen 1
         have r2 := D5.frozen 2
         have r3 := D5.frozen 3
         have r4 := D5.frozen 4
         have zq := D5.lt
         have v2 : IntKind.i64.wrap (p' + max a (-a)) = p' + max a (-a) := IntWalk.i64_in _ (by omega)
         have v3 : IntKind.i64.wrap (d' + max a (-a)) = d' + max a (-a) := IntWalk.i64_in _ (by omega)
         rcases x with _ | _
         ·go_upto_region 28 with fail
          refine name_world (fun W7 hW7 => ?_)
          have D7 : Blk W7 g14 72 #[.int .i64 t, .int .i64 (p' + max a (-a)), .int .i64 d', .int .i64 0, .int .i64 s] := by rw [hW7]; exact D5.set_ 1 _
          have hl7 : Later w3 W7 := by rw [hW7]; exact (hb.trans hl5).put (by have := Hg.out; omega) _
          clear hW7
          go_wp2
          go_roundw
          case rel => exact ⟨j + 1, p' + max a (-a), d', by omega, by go_num, by rw [Hsp.out, Hp'.out]; simp; try omega, by rw [Hsd.out, Hd'.out]; simp; try omega, D7.later (by repeat' (with_reducible first | exact .refl _ | assumption | refine .drew ?_ | refine .drewN ?_ _ | refine .alloc ?_ _ | refine .put ?_ (by omega) _ | refine .trans ?_ (by assumption))), hl7.trans (by repeat' (with_reducible first | exact .refl _ | assumption | refine .drew ?_ | refine .drewN ?_ _ | refine .alloc ?_ _ | refine .put ?_ (by omega) _ | refine .trans ?_ (by assumption)))⟩
          case measure => simp [intOf]; omega
         ·go_upto_region 28 with fail
          refine name_world (fun W7 hW7 => ?_)
          have D7 : Blk W7 g14 72 #[.int .i64 t, .int .i64 p', .int .i64 (d' + max a (-a)), .int .i64 0, .int .i64 s] := by rw [hW7]; exact D5.set_ 2 _
          have hl7 : Later w3 W7 := by rw [hW7]; exact (hb.trans hl5).put (by have := Hg.out; omega) _
          clear hW7
          go_wp2
          go_roundw
          case rel => exact ⟨j + 1, p', d' + max a (-a), by omega, by go_num, by rw [Hsp.out, Hp'.out]; simp; try omega, by rw [Hsd.out, Hd'.out]; simp; try omega, D7.later (by repeat' (with_reducible first | exact .refl _ | assumption | refine .drew ?_ | refine .drewN ?_ _ | refine .alloc ?_ _ | refine .put ?_ (by omega) _ | refine .trans ?_ (by assumption))), hl7.trans (by repeat' (with_reducible first | exact .refl _ | assumption | refine .drew ?_ | refine .drewN ?_ _ | refine .alloc ?_ _ | refine .put ?_ (by omega) _ | refine .trans ?_ (by assumption)))⟩
          case measure => simp [intOf]; omega
        ·have hje : j = polys.length := by omega
         have hrt : row.take j = row := List.take_of_length_le (by omega)
         rw [hrt] at hp' hd' sp1 sp2 sd1 sd2
         have Hp' := Lib.hid hp'
         have Hd' := Lib.hid hd'
         have hpb : 0 ≤ p' ∧ p' ≤ 2199023255552 * ((k + 1 : Nat) : Int) := by omega
         have hdb : 0 ≤ d' ∧ d' ≤ 2199023255552 * ((k + 1 : Nat) : Int) := by omega
         clear hp' hd' hrt sp1 sp2 sd1 sd2
         go_wp2
         go_roundw
         case rel => exact ⟨k + 1, p', d', by omega, by go_num, by rw [Hp1.out, Hp'.out, Hp.out], by rw [Hd1.out, Hd'.out, Hd.out], hpb.1, hpb.2, hdb.1, hdb.2, D.later (by repeat' (with_reducible first | exact .refl _ | assumption | refine .drew ?_ | refine .drewN ?_ _ | refine .alloc ?_ _ | refine .put ?_ (by omega) _ | refine .trans ?_ (by assumption))), hb.trans (by repeat' (with_reducible first | exact .refl _ | assumption | refine .drew ?_ | refine .drewN ?_ _ | refine .alloc ?_ _ | refine .put ?_ (by omega) _ | refine .trans ?_ (by assumption)))⟩
         case measure => simp [intOf]; omega
      ·have hke : k = ys.length := by omega
       subst hke
       rw [List.take_length] at Hp Hd
       have hgg := Hg.out
       have D8d := D8c.later hb
       have q0 : wr.cell? ⟨g14, 0, none⟩ = some (.int .i64 t) := D.cell 0
       have q1 : wr.cell? ⟨g14, 1, none⟩ = some (.int .i64 p) := D.cell 1
       have q2 : wr.cell? ⟨g14, 2, none⟩ = some (.int .i64 d) := D.cell 2
       have q3 : wr.cell? ⟨g14, 3, none⟩ = some (.int .i64 0) := D.cell 3
       have q4 : wr.cell? ⟨g14, 4, none⟩ = some (.int .i64 s) := D.cell 4
       have r0 := D.frozen 0
       have r1 := D.frozen 1
       have r2 := D.frozen 2
       have r3 := D.frozen 3
       have r4 := D.frozen 4
       have zq := D.lt
       have v1 : IntKind.i64.wrap (t - s) = t - s := IntWalk.i64_in _ (by omega)
       have v2 : IntKind.i64.wrap (t - s - d) = t - s - d := IntWalk.i64_in _ (by omega)
       have v3 : IntKind.i64.wrap (t - s - d - p) = t - s - d - p := IntWalk.i64_in _ (by omega)
       go_upto_region 31 with fail
       refine name_world (fun W9 hW9 => ?_)
       have hz8 := D8c.lt
       have D9 : Blk W9 g14 72 #[.int .i64 t, .int .i64 p, .int .i64 d, .int .i64 (t - s - d - p), .int .i64 s] := by rw [hW9]; exact D.set_ 3 _
       have D8e : Blk W9 g8 72 #[.int .i64 0, .int .i64 0, .int .i64 0, .int .i64 0, .int .i64 0] := by rw [hW9]; exact D8d.far (by omega) _
       have hl9 : Later w W9 := by rw [hW9]; exact (hl3.trans hb).put (by omega) _
       clear hW9 q0 q1 q2 q3 q4 r0 r1 r2 r3 r4 zq
       have u0 : W9.cell? ⟨g14, 0, none⟩ = some (.int .i64 t) := D9.cell 0
       have u1 : W9.cell? ⟨g14, 1, none⟩ = some (.int .i64 p) := D9.cell 1
       have u2 : W9.cell? ⟨g14, 2, none⟩ = some (.int .i64 d) := D9.cell 2
       have u3 : W9.cell? ⟨g14, 3, none⟩ = some (.int .i64 (t - s - d - p)) := D9.cell 3
       have u4 : W9.cell? ⟨g14, 4, none⟩ = some (.int .i64 s) := D9.cell 4
       have zu := D9.lt
       have q0 : W9.cell? ⟨g8, 0, none⟩ = some (.int .i64 0) := D8e.cell 0
       have q1 : W9.cell? ⟨g8, 1, none⟩ = some (.int .i64 0) := D8e.cell 1
       have q2 : W9.cell? ⟨g8, 2, none⟩ = some (.int .i64 0) := D8e.cell 2
       have q3 : W9.cell? ⟨g8, 3, none⟩ = some (.int .i64 0) := D8e.cell 3
       have q4 : W9.cell? ⟨g8, 4, none⟩ = some (.int .i64 0) := D8e.cell 4
       have r0 := D8e.frozen 0
       have r1 := D8e.frozen 1
       have r2 := D8e.frozen 2
       have r3 := D8e.frozen 3
       have r4 := D8e.frozen 4
       have zq := D8e.lt
       go_wp2
       refine bodyPost_ret (v := .tuple #[.agg #[.int .i64 t, .int .i64 p, .int .i64 d, .int .i64 (t - s - d - p), .int .i64 s], .int .i64 0]) (by simp [results, Tryz.results20, go_sem, q0, q1, q2, q3, q4]) rfl ?_
       refine ⟨?_, (by repeat' (with_reducible first | exact .refl _ | assumption | refine .drew ?_ | refine .drewN ?_ _ | refine .alloc ?_ _ | refine .put ?_ (by omega) _ | refine .trans ?_ (by assumption)))⟩
       rw [HRv.out]
       unfold Bal.agg balR
       simp only [← Ht.out, ← Hs.out, ← Hp.out, ← Hd.out]
  ·have HRv := Lib.hid (Hb2.out rfl h2)
   have dn : (e2 != 0) = true := by simpa using h2
   clear Hb1 Hb2 Hb3 Hpz Htz Hat Hcz hB hw ht0
   go_enter Tryz.func20, Tryz.ntmps20
   go_upto_region 4 with (first | (go_at_call 38; (with_reducible refine (HK.out _ (by repeat' (with_reducible first | exact .refl _ | assumption | refine .drew ?_ | refine .drewN ?_ _ | refine .alloc ?_ _ | refine .put ?_ (by omega) _ | refine .trans ?_ (by assumption)))).mono ?_); rintro e w1 ⟨rfl, hb1⟩))
   have D1 : Blk w1 w.heap.size 70 #[.int .i64 len, .int .i64 wd, .int .i64 rx, .int .i64 ry, .slice S1 n1 c1, .slice S2 n2 c2, .slice P ys.length pc] := Blk.later (by repeat' (with_reducible first | assumption | (refine Blk.newAt ?_; simp; done) | refine Blk.alloc ?_ _ | refine Blk.drew ?_ | refine Blk.drewN ?_ _ | refine Blk.later ?_ (by assumption))) hb1
   have D8 : Blk w1 (w.heap.size + 1) 72 #[.int .i64 0, .int .i64 0, .int .i64 0, .int .i64 0, .int .i64 0] := Blk.later (by repeat' (with_reducible first | assumption | (refine Blk.newAt ?_; simp; done) | refine Blk.alloc ?_ _ | refine Blk.drew ?_ | refine Blk.drewN ?_ _ | refine Blk.later ?_ (by assumption))) hb1
   have hl1 : Later w w1 := (by repeat' (with_reducible first | exact .refl _ | assumption | refine .drew ?_ | refine .drewN ?_ _ | refine .alloc ?_ _ | refine .put ?_ (by omega) _ | refine .trans ?_ (by assumption)))
   clear hb1
   have hg8 : w.heap.size ≤ w.heap.size + 1 := by omega
   generalize w.heap.size + 1 = g8 at *
   have k0 : w1.cell? ⟨w.heap.size, 0, none⟩ = some (.int .i64 len) := D1.cell 0
   have k1 : w1.cell? ⟨w.heap.size, 1, none⟩ = some (.int .i64 wd) := D1.cell 1
   have k2 : w1.cell? ⟨w.heap.size, 2, none⟩ = some (.int .i64 rx) := D1.cell 2
   have k3 : w1.cell? ⟨w.heap.size, 3, none⟩ = some (.int .i64 ry) := D1.cell 3
   have k4 : w1.cell? ⟨w.heap.size, 4, none⟩ = some (.slice S1 n1 c1) := D1.cell 4
   have k5 : w1.cell? ⟨w.heap.size, 5, none⟩ = some (.slice S2 n2 c2) := D1.cell 5
   have k6 : w1.cell? ⟨w.heap.size, 6, none⟩ = some (.slice P ys.length pc) := D1.cell 6
   have zk := D1.lt
   go_upto_region 6 with (first | (go_at_call 39; (with_reducible refine (HP.out _ hl1).mono ?_); rintro e w2 ⟨rfl, hb2⟩))
   have D8b := D8.later hb2
   have hl2 := hl1.trans hb2
   clear hb2 k0 k1 k2 k3 k4 k5 k6 zk D1 D8
   have q0 : w2.cell? ⟨g8, 0, none⟩ = some (.int .i64 0) := D8b.cell 0
   have q1 : w2.cell? ⟨g8, 1, none⟩ = some (.int .i64 0) := D8b.cell 1
   have q2 : w2.cell? ⟨g8, 2, none⟩ = some (.int .i64 0) := D8b.cell 2
   have q3 : w2.cell? ⟨g8, 3, none⟩ = some (.int .i64 0) := D8b.cell 3
   have q4 : w2.cell? ⟨g8, 4, none⟩ = some (.int .i64 0) := D8b.cell 4
   have r0 := D8b.frozen 0
   have r1 := D8b.frozen 1
   have r2 := D8b.frozen 2
   have r3 := D8b.frozen 3
   have r4 := D8b.frozen 4
   have zq := D8b.lt
   go_wp2
   refine bodyPost_ret (v := .tuple #[.agg #[.int .i64 0, .int .i64 0, .int .i64 0, .int .i64 0, .int .i64 0], .int .i64 e2]) (by simp [results, Tryz.results20, go_sem, q0, q1, q2, q3, q4]) rfl ?_
   exact ⟨by rw [HRv.out]; rfl, (by repeat' (with_reducible first | exact .refl _ | assumption | refine .drew ?_ | refine .drewN ?_ _ | refine .alloc ?_ _ | refine .put ?_ (by omega) _ | refine .trans ?_ (by assumption)))⟩
 ·have HRv := Lib.hid (Hb1.out h1)
  have dn : (e1 != 0) = true := by simpa using h1
  clear Hb1 Hb2 Hb3 Hpz Htz Hat Hcz
  go_enter Tryz.func20, Tryz.ntmps20
  go_upto_region 3 with (first | (go_at_call 38; (with_reducible refine (HK.out _ (by repeat' (with_reducible first | exact .refl _ | assumption | refine .drew ?_ | refine .drewN ?_ _ | refine .alloc ?_ _ | refine .put ?_ (by omega) _ | refine .trans ?_ (by assumption)))).mono ?_); rintro e w1 ⟨rfl, hb1⟩))
  have D8 : Blk w1 (w.heap.size + 1) 72 #[.int .i64 0, .int .i64 0, .int .i64 0, .int .i64 0, .int .i64 0] := Blk.later (by repeat' (with_reducible first | assumption | (refine Blk.newAt ?_; simp; done) | refine Blk.alloc ?_ _ | refine Blk.drew ?_ | refine Blk.drewN ?_ _ | refine Blk.later ?_ (by assumption))) hb1
  have hl1 : Later w w1 := (by repeat' (with_reducible first | exact .refl _ | assumption | refine .drew ?_ | refine .drewN ?_ _ | refine .alloc ?_ _ | refine .put ?_ (by omega) _ | refine .trans ?_ (by assumption)))
  clear hb1
  have hg8 : w.heap.size ≤ w.heap.size + 1 := by omega
  generalize w.heap.size + 1 = g8 at *
  have q0 : w1.cell? ⟨g8, 0, none⟩ = some (.int .i64 0) := D8.cell 0
  have q1 : w1.cell? ⟨g8, 1, none⟩ = some (.int .i64 0) := D8.cell 1
  have q2 : w1.cell? ⟨g8, 2, none⟩ = some (.int .i64 0) := D8.cell 2
  have q3 : w1.cell? ⟨g8, 3, none⟩ = some (.int .i64 0) := D8.cell 3
  have q4 : w1.cell? ⟨g8, 4, none⟩ = some (.int .i64 0) := D8.cell 4
  have r0 := D8.frozen 0
  have r1 := D8.frozen 1
  have r2 := D8.frozen 2
  have r3 := D8.frozen 3
  have r4 := D8.frozen 4
  have zq := D8.lt
  go_wp2
  refine bodyPost_ret (v := .tuple #[.agg #[.int .i64 0, .int .i64 0, .int .i64 0, .int .i64 0, .int .i64 0], .int .i64 e1]) (by simp [results, Tryz.results20, go_sem, q0, q1, q2, q3, q4]) rfl ?_
  exact ⟨by rw [HRv.out]; rfl, (by repeat' (with_reducible first | exact .refl _ | assumption | refine .drew ?_ | refine .drewN ?_ _ | refine .alloc ?_ _ | refine .put ?_ (by omega) _ | refine .trans ?_ (by assumption)))⟩
end Go.Proofs.YtdhakoecjmaebaaGreat
