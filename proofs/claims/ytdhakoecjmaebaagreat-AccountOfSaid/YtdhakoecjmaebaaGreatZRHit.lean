/-
 The reference of layer 39: Hit returns what the program's Hit returns.
-/
import Derived.Test.YtdhakoecjmaebaaGreatZRefP
import Derived.Test.YtdhakoecjmaebaaGreatZRefI
import Derived.Test.YtdhakoecjmaebaaGreatZRCar
import Derived.Test.YtdhakoecjmaebaaGreatZDTab
namespace Go.Proofs.YtdhakoecjmaebaaGreat
open Go.RowKit
set_option linter.unusedSimpArgs false
set_option linter.unusedVariables false
theorem rcarrier_eq2 (qs : List Qd) (ps : List Pt) : rcarrierR qs ps = carrierR qs ps := by
 unfold rcarrierR carrierR
 rw [rcheck_eq]
theorem rhits_err {ps : List Pt} (h : checkI ps = 0) (x y ww hh : Int) : (rhitsR ps x y ww hh).2 = 0 := by
 unfold rhitsR
 rw [if_neg (by simpa using h)]
 split <;> rfl
section
variable (A B C : Option Addr) (c cb cc : Nat) (lot : Int) (qs : List Qd) (rs : List Rl) (ps : List Pt) (w : World)
set_option maxHeartbeats 1000000 in
theorem ref39_Hit_err (hn : ps.length ≤ 1099511627776) (hcap : ps.length ≤ c) (hp : Pts w A ps) (hnq : qs.length ≤ 65536) (hcq : qs.length ≤ cb) (hq : Qds w B qs) (hok : (carrierR qs ps).2 ≠ 0) :
  Calls Tryz.prog 85 #[.agg #[.int .i64 lot, .slice B qs.length cb], .slice C rs.length cc, .slice A ps.length c] w (Ret (.tuple #[.bool false, .int .i64 (carrierR qs ps).2]) w) := by
 have hC := fun W (hW : Pts W A ps) (hWq : Qds W B qs) => ref39_Carrier A B c cb lot qs ps W hn hcap hW hnq hcq hWq
 rw [rcarrier_eq2] at hC
 have HC := Lib.hid hC
 generalize carrierR qs ps = R at *
 obtain ⟨ci, er⟩ := R
 have h0 : (er != 0) = true := by simpa using hok
 clear hC hok
 go_enter Tryz.func85, Tryz.ntmps85
 go_wp2_with (first | (go_at_call 132; refine (HC.out _ (hp.later ((by repeat' (with_reducible first | exact .refl _ | assumption | refine .drew ?_ | refine .drewN ?_ _ | refine .alloc ?_ _ | refine .put ?_ (by omega) _ | refine .trans ?_ (by assumption))))) (hq.later ((by repeat' (with_reducible first | exact .refl _ | assumption | refine .drew ?_ | refine .drewN ?_ _ | refine .alloc ?_ _ | refine .put ?_ (by omega) _ | refine .trans ?_ (by assumption)))))).mono ?_; rintro e w1 ⟨rfl, hb1⟩))
 go_ret2
 exact ⟨rfl, (by repeat' (with_reducible first | exact .refl _ | assumption | refine .drew ?_ | refine .drewN ?_ _ | refine .alloc ?_ _ | refine .put ?_ (by omega) _ | refine .trans ?_ (by assumption)))⟩
set_option maxHeartbeats 2000000 in
theorem ref39_Hit_range (j : Nat) (hj : j < qs.length) (hn : ps.length ≤ 1099511627776) (hcap : ps.length ≤ c) (hp : Pts w A ps) (hnq : qs.length ≤ 65536) (hcq : qs.length ≤ cb) (hq : Qds w B qs) (hok : carrierR qs ps = ((j : Int), 0))
  (hr : (qs[j]).a < 0 ∨ (rs.length : Int) ≤ (qs[j]).a) :
  Calls Tryz.prog 85 #[.agg #[.int .i64 lot, .slice B qs.length cb], .slice C rs.length cc, .slice A ps.length c] w (Ret (.tuple #[.bool false, .int .i64 3]) w) := by
 have hC := fun W (hW : Pts W A ps) (hWq : Qds W B qs) => ref39_Carrier A B c cb lot qs ps W hn hcap hW hnq hcq hWq
 rw [rcarrier_eq2, hok] at hC
 have HC := Lib.hid hC
 clear hC hok
 obtain ⟨b, o, rfl, hat⟩ := hq (by omega)
 have hj0 : (0 : Int) ≤ (j : Int) := by omega
 have hj1 : (j : Int) < (qs.length : Int) := by omega
 generalize hqj : qs[j] = q at hr
 have Hqj := Lib.hid hqj
 clear hqj
 go_enter Tryz.func85, Tryz.ntmps85
 go_upto_region 4 with (first | (go_at_call 132; refine (HC.out _ (hp.later ((by repeat' (with_reducible first | exact .refl _ | assumption | refine .drew ?_ | refine .drewN ?_ _ | refine .alloc ?_ _ | refine .put ?_ (by omega) _ | refine .trans ?_ (by assumption))))) (hq.later ((by repeat' (with_reducible first | exact .refl _ | assumption | refine .drew ?_ | refine .drewN ?_ _ | refine .alloc ?_ _ | refine .put ?_ (by omega) _ | refine .trans ?_ (by assumption)))))).mono ?_; rintro e w1 ⟨rfl, hb1⟩))
 have hl1 : Later w w1 := (by repeat' (with_reducible first | exact .refl _ | assumption | refine .drew ?_ | refine .drewN ?_ _ | refine .alloc ?_ _ | refine .put ?_ (by omega) _ | refine .trans ?_ (by assumption)))
 obtain ⟨e1, e2, e3, e4⟩ := (hat.later hl1).get hj
 rw [Hqj.out] at e1 e2 e3 e4
 have r1 : w1.cell? ⟨w.heap.size, 1, none⟩ = some (.slice (some ⟨b, o, none⟩) qs.length cb) := hb1.cell (by simp [go_sem])
 have hbz : b < w1.heap.size := World.block_lt_of_cell? _ _ e1
 have hgz : w.heap.size < w1.heap.size := World.block_lt_of_cell? _ _ r1
 obtain ⟨qa, qb, qc, qd⟩ := q
 by_cases h1 : qa < 0
 ·have d1 : decide (qa < 0) = true := by simpa using h1
  go_wp2
  go_ret2
  exact ⟨rfl, (by repeat' (with_reducible first | exact .refl _ | assumption | refine .drew ?_ | refine .drewN ?_ _ | refine .alloc ?_ _ | refine .put ?_ (by omega) _ | refine .trans ?_ (by assumption)))⟩
 ·have d1 : decide (qa < 0) = false := by simpa using h1
  have h2 : (rs.length : Int) ≤ qa := by simp only [] at hr; omega
  have d2 : decide ((rs.length : Int) ≤ qa) = true := by simpa using h2
  go_wp2
  go_ret2
  exact ⟨rfl, (by repeat' (with_reducible first | exact .refl _ | assumption | refine .drew ?_ | refine .drewN ?_ _ | refine .alloc ?_ _ | refine .put ?_ (by omega) _ | refine .trans ?_ (by assumption)))⟩
set_option maxHeartbeats 4000000 in
theorem ref39_Hit_in (j n : Nat) (hj : j < qs.length) (hn : ps.length ≤ 1099511627776) (hcap : ps.length ≤ c) (hp : Pts w A ps) (hnq : qs.length ≤ 65536) (hcq : qs.length ≤ cb) (hq : Qds w B qs) (hok : carrierR qs ps = ((j : Int), 0))
  (hrs : Rolls w C rs) (hr : (qs[j]).a = (n : Int)) (hnr : n < rs.length) (hrl : rs.length ≤ 65536) :
  Calls Tryz.prog 85 #[.agg #[.int .i64 lot, .slice B qs.length cb], .slice C rs.length cc, .slice A ps.length c] w (Ret (.tuple #[.bool (rollHit ps (qs[j]) (rs[n])).1, .int .i64 (rollHit ps (qs[j]) (rs[n])).2]) w) := by
 have hC := fun W (hW : Pts W A ps) (hWq : Qds W B qs) => ref39_Carrier A B c cb lot qs ps W hn hcap hW hnq hcq hWq
 rw [rcarrier_eq2, hok] at hC
 have HC := Lib.hid hC
 obtain ⟨hck, j', hj', hj2, hcar⟩ := carrier_ok (qs := qs) (ps := ps) (by rw [hok])
 rw [hok] at hj'
 obtain rfl : j = j' := by simp only [] at hj'; omega
 have hbd := carries_bd hcar
 clear hC hok hj' hcar
 obtain ⟨b, o, rfl, hat⟩ := hq (by omega)
 have hj0 : (0 : Int) ≤ (j : Int) := by omega
 have hj1 : (j : Int) < (qs.length : Int) := by omega
 have hn0 : (0 : Int) ≤ (n : Int) := by omega
 have hn1 : (n : Int) < (rs.length : Int) := by omega
 have d1 : decide ((n : Int) < 0) = false := by simp
 have d2 : decide (rs.length ≤ n) = false := by simp; omega
 generalize hqj : qs[j] = q at *
 have Hqj := Lib.hid hqj
 clear hqj
 obtain ⟨qa, qb, qc, qd⟩ := q
 simp only [] at hbd hr
 subst hr
 obtain ⟨bd1, bd2, bd3, _, _⟩ := hbd
 obtain ⟨bc, oc, rfl, z0, z1, z2, z3, z4, z5, z6, zok⟩ := hrs.at_ hnr
 generalize rs[n] = r at *
 obtain ⟨rid, rwd, rln, rtl, rta, rtb, fa, fc, fl⟩ := r
 simp only [] at z0 z1 z2 z3 z4 z5 z6
 go_enter Tryz.func85, Tryz.ntmps85
 go_upto_region 4 with (first | (go_at_call 132; refine (HC.out _ (hp.later ((by repeat' (with_reducible first | exact .refl _ | assumption | refine .drew ?_ | refine .drewN ?_ _ | refine .alloc ?_ _ | refine .put ?_ (by omega) _ | refine .trans ?_ (by assumption))))) (hq.later ((by repeat' (with_reducible first | exact .refl _ | assumption | refine .drew ?_ | refine .drewN ?_ _ | refine .alloc ?_ _ | refine .put ?_ (by omega) _ | refine .trans ?_ (by assumption)))))).mono ?_; rintro e w1 ⟨rfl, hb1⟩))
 have hl1 : Later w w1 := (by repeat' (with_reducible first | exact .refl _ | assumption | refine .drew ?_ | refine .drewN ?_ _ | refine .alloc ?_ _ | refine .put ?_ (by omega) _ | refine .trans ?_ (by assumption)))
 obtain ⟨e1, e2, e3, e4⟩ := (hat.later hl1).get hj
 rw [Hqj.out] at e1 e2 e3 e4
 have r1 : w1.cell? ⟨w.heap.size, 1, none⟩ = some (.slice (some ⟨b, o, none⟩) qs.length cb) := hb1.cell (by simp [go_sem])
 have hbz : b < w1.heap.size := World.block_lt_of_cell? _ _ e1
 have hgz : w.heap.size < w1.heap.size := World.block_lt_of_cell? _ _ r1
 have a0 := hl1.cell z0
 have a1 := hl1.cell z1
 have a2 := hl1.cell z2
 have a3 := hl1.cell z3
 have a4 := hl1.cell z4
 have a5 := hl1.cell z5
 have a6 := hl1.cell z6
 have hrok := zok.later hl1
 have hcz : bc < w1.heap.size := World.block_lt_of_cell? _ _ a0
 clear z0 z1 z2 z3 z4 z5 z6 zok
 have HK := Lib.hid (fun W (hW : Later w1 W) => ref27_Check (⟨rid, rwd, rln, rtl, rta, rtb, fa, fc, fl⟩ : Rl) W (hrok.later hW))
 obtain ⟨hid, hfc, hfm, hqf, hqi, hints⟩ := hrok
 unfold Rl.agg at HK
 simp only [] at HK hfc hfm hqf hqi
 clear HC
 rcases Classical.em (rollI (⟨rid, rwd, rln, rtl, rta, rtb, fa, fc, fl⟩ : Rl) = 0) with hri | hri
 ·obtain ⟨_, hf20, hfb, hln, hwd⟩ := roll_ok hri
  simp only [] at hf20 hfb hln hwd
  have hfa := flawsBad_all.1 hfb
  rw [hri] at HK
  have Hv := Lib.hid (show rollHit ps ⟨(n : Int), qb, qc, qd⟩ (⟨rid, rwd, rln, rtl, rta, rtb, fa, fc, fl⟩ : Rl) = flawGo ps (qd - qb) fl by rw [rollHit, if_neg (by simpa using hri)])
  clear hri hfb
  go_wp2_with (first | (go_at_call 133; refine (HK.out _ ((by repeat' (with_reducible first | exact .refl _ | assumption | refine .drew ?_ | refine .drewN ?_ _ | refine .alloc ?_ _ | refine .put ?_ (by omega) _ | refine .trans ?_ (by assumption))))).mono ?_; rintro e w2 ⟨rfl, hb2⟩))
  have p1 : w2.cell? ⟨w1.heap.size, 1, none⟩ = some (.int .i64 qb) := hb2.cell (by simp [go_sem])
  have p3 : w2.cell? ⟨w1.heap.size, 3, none⟩ = some (.int .i64 qd) := hb2.cell (by simp [go_sem])
  have b6 : w2.cell? ⟨w1.heap.size + 1, 6, none⟩ = some (.slice fa fl.length fc) := hb2.cell (by simp [go_sem])
  have hl12 : Later w1 w2 := (((Later.refl _).alloc _).alloc _).trans hb2
  have hl2 : Later w w2 := hl1.trans hl12
  have hp2 := hp.later hl2
  have hq2 := hqf.later hl12
  clear a0 a1 a2 a3 a4 a5 a6 e1 e2 e3 e4 r1 HK hbz hgz hcz hb2 hb1
  generalize w1.heap.size = gp1 at *
  go_loopw [6, 7, 13] (fun _ _ iv wr => ∃ k : Nat, k ≤ fl.length ∧ iv = .int .i64 k ∧ flawGo ps (qd - qb) fl = flawGo ps (qd - qb) (fl.drop k) ∧ Later w2 wr) (fun _ _ iv _ => fl.length - (intOf iv).toNat)
  case atStart => exact ⟨0, by omega, rfl, rfl, Later.refl _⟩
  case round =>
   obtain ⟨k, hk, rfl, he, hb⟩ := hrel
   have He := Lib.hid he
   clear he
   have g1 := hb.cell p1
   have g3 := hb.cell p3
   have g6 := hb.cell b6
   by_cases hlt : k < fl.length
   ·obtain ⟨bb, ob, rfl, hel⟩ := (hq2.later hb) (by omega)
    obtain ⟨e1, e2, e3, e4⟩ := hel.get hlt
    have hbz : bb < wr.heap.size := World.block_lt_of_cell? _ _ e1
    have hgz : gp1 < wr.heap.size := World.block_lt_of_cell? _ _ g1
    have hgz6 : gp1 + 1 < wr.heap.size := World.block_lt_of_cell? _ _ g6
    have Hd := Lib.hid (drop_cons' fl k hlt)
    have hi := flaw_in (hfa _ (List.getElem_mem hlt))
    generalize fl[k] = q at *
    obtain ⟨xa, xb, xc, xd⟩ := q
    simp only [] at hi e1 e2 e3 e4
    obtain ⟨i1, i2, i3, i4, i5, i6⟩ := hi
    have HH := Lib.hid (fun W (hW : Pts W A ps) => ref15_Hits A c ps (xa + qd - qb) xb xc xd W hn hcap hW (by omega) (by omega) (by omega) (by omega) (by omega) (by omega) (by omega) (by omega))
    rw [rhits_eq (by omega) (by omega) (by omega) (by omega) (by omega) (by omega) (by omega)] at HH
    have h20 : (hitsR ps (xa + qd - qb) xb xc xd).2 = 0 := by
     rw [← rhits_eq (by omega) (by omega) (by omega) (by omega) (by omega) (by omega) (by omega)]
     exact rhits_err hck _ _ _ _
    have hse : xa + (qd - qb) = xa + qd - qb := by omega
    rcases h2 : hitsR ps (xa + qd - qb) xb xc xd with ⟨hb0, he0⟩
    rw [h2] at HH h20
    simp only [] at h20
    subst h20
    have H2 := Lib.hid (show hitsR ps (xa + (qd - qb)) xb xc xd = (hb0, 0) by rw [hse]; exact h2)
    clear h2 hse
    have hpr := hp2.later hb
    have hk0 : (0 : Int) ≤ (k : Int) := by omega
    have hk1 : (k : Int) < (fl.length : Int) := by omega
    have x1 : IntKind.i64.wrap (xa + qd) = xa + qd := IntWalk.i64_in _ (by omega)
    have x2 : IntKind.i64.wrap (xa + qd - qb) = xa + qd - qb := IntWalk.i64_in _ (by omega)
    rcases hb0 with _ | _
    ·go_wp2_with (first | (go_at_call 134; refine (HH.out _ (hpr.later ((by repeat' (with_reducible first | exact .refl _ | assumption | refine .drew ?_ | refine .drewN ?_ _ | refine .alloc ?_ _ | refine .put ?_ (by omega) _ | refine .trans ?_ (by assumption)))))).mono ?_; rintro e w5 ⟨rfl, hb5⟩))
     go_roundw
     case rel => exact ⟨k + 1, by omega, by go_num, by rw [He.out, Hd.out, flaw_miss (by rw [H2.out]) (by rw [H2.out])], (by repeat' (with_reducible first | exact .refl _ | assumption | refine .drew ?_ | refine .drewN ?_ _ | refine .alloc ?_ _ | refine .put ?_ (by omega) _ | refine .trans ?_ (by assumption)))⟩
     case measure => simp [intOf]; omega
    ·go_wp2_with (first | (go_at_call 134; refine (HH.out _ (hpr.later ((by repeat' (with_reducible first | exact .refl _ | assumption | refine .drew ?_ | refine .drewN ?_ _ | refine .alloc ?_ _ | refine .put ?_ (by omega) _ | refine .trans ?_ (by assumption)))))).mono ?_; rintro e w5 ⟨rfl, hb5⟩))
     go_ret2
     exact ⟨by rw [Hv.out, He.out, Hd.out, flaw_hit (by rw [H2.out]) (by rw [H2.out])]; rfl, (by repeat' (with_reducible first | exact .refl _ | assumption | refine .drew ?_ | refine .drewN ?_ _ | refine .alloc ?_ _ | refine .put ?_ (by omega) _ | refine .trans ?_ (by assumption)))⟩
   ·go_wp2
    go_ret2
    exact ⟨by rw [Hv.out, He.out, List.drop_eq_nil_of_le (by omega)]; rfl, (by repeat' (with_reducible first | exact .refl _ | assumption | refine .drew ?_ | refine .drewN ?_ _ | refine .alloc ?_ _ | refine .put ?_ (by omega) _ | refine .trans ?_ (by assumption)))⟩
 ·have hre : (rollI (⟨rid, rwd, rln, rtl, rta, rtb, fa, fc, fl⟩ : Rl) != 0) = true := by simpa using hri
  have Hv := Lib.hid (show rollHit ps ⟨(n : Int), qb, qc, qd⟩ (⟨rid, rwd, rln, rtl, rta, rtb, fa, fc, fl⟩ : Rl) = (false, rollI (⟨rid, rwd, rln, rtl, rta, rtb, fa, fc, fl⟩ : Rl)) by rw [rollHit, if_pos hri])
  clear hri
  generalize rollI (⟨rid, rwd, rln, rtl, rta, rtb, fa, fc, fl⟩ : Rl) = er at *
  go_wp2_with (first | (go_at_call 133; refine (HK.out _ ((by repeat' (with_reducible first | exact .refl _ | assumption | refine .drew ?_ | refine .drewN ?_ _ | refine .alloc ?_ _ | refine .put ?_ (by omega) _ | refine .trans ?_ (by assumption))))).mono ?_; rintro e w2 ⟨rfl, hb2⟩))
  go_ret2
  exact ⟨by rw [Hv.out]; rfl, (by repeat' (with_reducible first | exact .refl _ | assumption | refine .drew ?_ | refine .drewN ?_ _ | refine .alloc ?_ _ | refine .put ?_ (by omega) _ | refine .trans ?_ (by assumption)))⟩
theorem ref39_Hit (hn : ps.length ≤ 1099511627776) (hcap : ps.length ≤ c) (hp : Pts w A ps) (hnq : qs.length ≤ 65536) (hcq : qs.length ≤ cb) (hq : Qds w B qs) (hrs : Rolls w C rs) (hrl : rs.length ≤ 65536) :
  Calls Tryz.prog 85 #[.agg #[.int .i64 lot, .slice B qs.length cb], .slice C rs.length cc, .slice A ps.length c] w (Ret (.tuple #[.bool (hitR qs rs ps).1, .int .i64 (hitR qs rs ps).2]) w) := by
 unfold hitR
 by_cases he : (carrierR qs ps).2 = 0
 ·rw [if_neg (by simpa using he)]
  obtain ⟨hck, j, hj1, hj, hcar⟩ := carrier_ok he
  have hok : carrierR qs ps = ((j : Int), 0) := by rw [← hj1, ← he]
  have hg : gq qs (carrierR qs ps).1.toNat = qs[j] := by rw [hj1, Int.toNat_natCast, gq]; simp [hj]
  rw [hg]
  by_cases hr : (qs[j]).a < 0 ∨ (rs.length : Int) ≤ (qs[j]).a
  ·rw [if_pos hr]
   exact ref39_Hit_range A B C c cb cc lot qs rs ps w j hj hn hcap hp hnq hcq hq hok hr
  ·rw [if_neg hr]
   have hnr : (qs[j]).a.toNat < rs.length := by omega
   have hg2 : gr rs (qs[j]).a.toNat = rs[(qs[j]).a.toNat] := by rw [gr]; simp [hnr]
   rw [hg2]
   exact ref39_Hit_in A B C c cb cc lot qs rs ps w j (qs[j]).a.toNat hj hn hcap hp hnq hcq hq hok hrs (by omega) hnr hrl
 ·rw [if_pos he]
  exact ref39_Hit_err A B C c cb cc lot qs rs ps w hn hcap hp hnq hcq hq he
end
end Go.Proofs.YtdhakoecjmaebaaGreat
