/-
 The walk of damage.Hit.
 The walk of damage.Table.
-/
import Derived.Test.YtdhakoecjmaebaaGreatZRoll
import Derived.Deep.OwnRows
namespace Go.Proofs.YtdhakoecjmaebaaGreat
open Go.RowKit
set_option linter.unusedSimpArgs false
set_option linter.unusedVariables false
def flawGo (ps : List Pt) (d : Int) : List Qd → Bool × Int
 | [] => (false, 0)
 | f :: l => if (hitsR ps (f.a + d) f.b f.c f.d).2 ≠ 0 then (false, (hitsR ps (f.a + d) f.b f.c f.d).2) else if (hitsR ps (f.a + d) f.b f.c f.d).1 = true then (true, 0) else flawGo ps d l
def rollHit (ps : List Pt) (x : Qd) (r : Rl) : Bool × Int := if rollI r ≠ 0 then (false, rollI r) else flawGo ps (x.d - x.b) r.fl
def gq (qs : List Qd) (j : Nat) : Qd := qs.getD j ⟨0, 0, 0, 0⟩
def gr (rs : List Rl) (j : Nat) : Rl := rs.getD j ⟨⟨#[]⟩, 0, 0, 0, 0, 0, none, 0, []⟩
def hitR (qs : List Qd) (rs : List Rl) (ps : List Pt) : Bool × Int :=
 if (carrierR qs ps).2 ≠ 0 then (false, (carrierR qs ps).2)
 else if (gq qs (carrierR qs ps).1.toNat).a < 0 ∨ (rs.length : Int) ≤ (gq qs (carrierR qs ps).1.toNat).a then (false, 3)
 else rollHit ps (gq qs (carrierR qs ps).1.toNat) (gr rs (gq qs (carrierR qs ps).1.toNat).a.toNat)
theorem carrierGo_ok {lo hi : Int} : ∀ {l : List Qd} {k : Nat}, (carrierGo lo hi l k).2 = 0 → ∃ j, (carrierGo lo hi l k).1 = ((k + j : Nat) : Int) ∧ ∃ h : j < l.length, carriesB l[j] lo hi = true := by
 intro l
 induction l with
 | nil => intro k h; cases h
 | cons p l ih =>
  intro k h
  rw [carrierGo] at h ⊢
  by_cases hc : carriesB p lo hi = true
  ·rw [if_pos hc]
   exact ⟨0, rfl, by simp, hc⟩
  ·rw [if_neg hc] at h ⊢
   obtain ⟨j, e, hj, hp⟩ := ih h
   exact ⟨j + 1, by rw [e]; congr 1; omega, by simp; omega, hp⟩
theorem carrier_ok {qs : List Qd} {ps : List Pt} (h : (carrierR qs ps).2 = 0) : checkI ps = 0 ∧ ∃ j : Nat, (carrierR qs ps).1 = (j : Int) ∧ ∃ hj : j < qs.length, carriesB qs[j] (loOf ps).x (hiOf ps).x = true := by
 unfold carrierR at h ⊢
 by_cases hc : checkI ps = 0
 ·rw [if_pos hc] at h ⊢
  obtain ⟨j, e, hj, hp⟩ := carrierGo_ok h
  exact ⟨hc, j, by rw [e]; simp, hj, hp⟩
 ·rw [if_neg hc] at h
  exact absurd h hc
theorem carries_bd {q : Qd} {lo hi : Int} (h : carriesB q lo hi = true) : (0 ≤ q.d ∧ q.d ≤ 1048576) ∧ (0 ≤ q.b ∧ q.b ≤ 1048576) ∧ (0 ≤ q.c ∧ q.c ≤ 1048576) ∧ q.d ≤ lo ∧ hi ≤ q.d + q.c - q.b := by
 unfold carriesB at h
 simp only [Bool.and_eq_true, decide_eq_true_eq] at h
 exact ⟨coord_bd h.1, coord_bd h.2.1, coord_bd h.2.2.1, h.2.2.2.1, h.2.2.2.2⟩
theorem flaw_err {ps : List Pt} {d : Int} {f : Qd} {l : List Qd} (h : (hitsR ps (f.a + d) f.b f.c f.d).2 ≠ 0) : flawGo ps d (f :: l) = (false, (hitsR ps (f.a + d) f.b f.c f.d).2) := by rw [flawGo, if_pos h]
theorem flaw_hit {ps : List Pt} {d : Int} {f : Qd} {l : List Qd} (h : (hitsR ps (f.a + d) f.b f.c f.d).2 = 0) (h1 : (hitsR ps (f.a + d) f.b f.c f.d).1 = true) : flawGo ps d (f :: l) = (true, 0) := by rw [flawGo, if_neg (by simpa using h), if_pos h1]
theorem flaw_miss {ps : List Pt} {d : Int} {f : Qd} {l : List Qd} (h : (hitsR ps (f.a + d) f.b f.c f.d).2 = 0) (h1 : (hitsR ps (f.a + d) f.b f.c f.d).1 = false) : flawGo ps d (f :: l) = flawGo ps d l := by rw [flawGo, if_neg (by simpa using h), if_neg (by simp [h1])]
section
variable (A B C : Option Addr) (c cb cc : Nat) (lot : Int) (qs : List Qd) (rs : List Rl) (ps : List Pt) (w : World)
set_option maxHeartbeats 1000000 in
theorem damage_Hit_err (hn : ps.length ≤ 1099511627776) (hcap : ps.length ≤ c) (hp : Pts w A ps) (hnq : qs.length ≤ 65536) (hcq : qs.length ≤ cb) (hq : Qds w B qs) (hok : (carrierR qs ps).2 ≠ 0) :
  Calls Tryz.prog 79 #[.agg #[.int .i64 lot, .slice B qs.length cb], .slice C rs.length cc, .slice A ps.length c] w (Ret (.tuple #[.bool false, .int .i64 (carrierR qs ps).2]) w) := by
 have hC := fun W (hW : Pts W A ps) (hWq : Qds W B qs) => damage_Carrier A B c cb lot qs ps W hn hcap hW hnq hcq hWq
 have HC := Lib.hid hC
 generalize carrierR qs ps = R at *
 obtain ⟨ci, er⟩ := R
 have h0 : (er != 0) = true := by simpa using hok
 clear hC hok
 go_enter Tryz.func79, Tryz.ntmps79
 go_wp2_with (first | (go_at_call 121; refine (HC.out _ (hp.later ((by repeat' (first | exact Later.refl _ | assumption | refine Later.drew ?_ | refine Later.drewN ?_ _ | refine Later.alloc ?_ _ | refine Later.put ?_ (by omega) _ | refine Later.trans ?_ (by assumption))))) (hq.later ((by repeat' (first | exact Later.refl _ | assumption | refine Later.drew ?_ | refine Later.drewN ?_ _ | refine Later.alloc ?_ _ | refine Later.put ?_ (by omega) _ | refine Later.trans ?_ (by assumption)))))).mono ?_; rintro e w1 ⟨rfl, hb1⟩))
 go_ret2
 exact ⟨rfl, (by repeat' (first | exact Later.refl _ | assumption | refine Later.drew ?_ | refine Later.drewN ?_ _ | refine Later.alloc ?_ _ | refine Later.put ?_ (by omega) _ | refine Later.trans ?_ (by assumption)))⟩
set_option maxHeartbeats 2000000 in
theorem damage_Hit_range (j : Nat) (hj : j < qs.length) (hn : ps.length ≤ 1099511627776) (hcap : ps.length ≤ c) (hp : Pts w A ps) (hnq : qs.length ≤ 65536) (hcq : qs.length ≤ cb) (hq : Qds w B qs) (hok : carrierR qs ps = ((j : Int), 0))
  (hr : (qs[j]).a < 0 ∨ (rs.length : Int) ≤ (qs[j]).a) :
  Calls Tryz.prog 79 #[.agg #[.int .i64 lot, .slice B qs.length cb], .slice C rs.length cc, .slice A ps.length c] w (Ret (.tuple #[.bool false, .int .i64 3]) w) := by
 have hC := fun W (hW : Pts W A ps) (hWq : Qds W B qs) => damage_Carrier A B c cb lot qs ps W hn hcap hW hnq hcq hWq
 rw [hok] at hC
 have HC := Lib.hid hC
 clear hC hok
 obtain ⟨b, o, rfl, hat⟩ := hq (by omega)
 have hj0 : (0 : Int) ≤ (j : Int) := by omega
 have hj1 : (j : Int) < (qs.length : Int) := by omega
 generalize hqj : qs[j] = q at hr
 have Hqj := Lib.hid hqj
 clear hqj
 go_enter Tryz.func79, Tryz.ntmps79
 go_upto_region 4 with (first | (go_at_call 121; refine (HC.out _ (hp.later ((by repeat' (first | exact Later.refl _ | assumption | refine Later.drew ?_ | refine Later.drewN ?_ _ | refine Later.alloc ?_ _ | refine Later.put ?_ (by omega) _ | refine Later.trans ?_ (by assumption))))) (hq.later ((by repeat' (first | exact Later.refl _ | assumption | refine Later.drew ?_ | refine Later.drewN ?_ _ | refine Later.alloc ?_ _ | refine Later.put ?_ (by omega) _ | refine Later.trans ?_ (by assumption)))))).mono ?_; rintro e w1 ⟨rfl, hb1⟩))
 have hl1 : Later w w1 := (by repeat' (first | exact Later.refl _ | assumption | refine Later.drew ?_ | refine Later.drewN ?_ _ | refine Later.alloc ?_ _ | refine Later.put ?_ (by omega) _ | refine Later.trans ?_ (by assumption)))
 obtain ⟨e1, e2, e3, e4⟩ := (hat.later hl1).get hj
 rw [Hqj.out] at e1 e2 e3 e4
 have r1 : w1.cell? ⟨w.heap.size, 1, none⟩ = some (.slice (some ⟨b, o, none⟩) qs.length cb) := hb1.cell (by simp [go_sem])
 have hbz : b < w1.heap.size := World.block_lt_of_cell? _ _ e1
 have hgz : w.heap.size < w1.heap.size := World.block_lt_of_cell? _ _ r1
 obtain ⟨qa, qb, qc, qd⟩ := q
 by_cases h1 : qa < 0
 ·have d1 : decide (qa < 0) = true := by simpa using h1
  go_wp2
  go_ret2
  exact ⟨rfl, (by repeat' (first | exact Later.refl _ | assumption | refine Later.drew ?_ | refine Later.drewN ?_ _ | refine Later.alloc ?_ _ | refine Later.put ?_ (by omega) _ | refine Later.trans ?_ (by assumption)))⟩
 ·have d1 : decide (qa < 0) = false := by simpa using h1
  have h2 : (rs.length : Int) ≤ qa := by simp only [] at hr; omega
  have d2 : decide ((rs.length : Int) ≤ qa) = true := by simpa using h2
  go_wp2
  go_ret2
  exact ⟨rfl, (by repeat' (first | exact Later.refl _ | assumption | refine Later.drew ?_ | refine Later.drewN ?_ _ | refine Later.alloc ?_ _ | refine Later.put ?_ (by omega) _ | refine Later.trans ?_ (by assumption)))⟩
set_option maxHeartbeats 4000000 in
theorem damage_Hit_in (j n : Nat) (hj : j < qs.length) (hn : ps.length ≤ 1099511627776) (hcap : ps.length ≤ c) (hp : Pts w A ps) (hnq : qs.length ≤ 65536) (hcq : qs.length ≤ cb) (hq : Qds w B qs) (hok : carrierR qs ps = ((j : Int), 0))
  (hrs : Rolls w C rs) (hr : (qs[j]).a = (n : Int)) (hnr : n < rs.length) (hrl : rs.length ≤ 65536) :
  Calls Tryz.prog 79 #[.agg #[.int .i64 lot, .slice B qs.length cb], .slice C rs.length cc, .slice A ps.length c] w (Ret (.tuple #[.bool (rollHit ps (qs[j]) (rs[n])).1, .int .i64 (rollHit ps (qs[j]) (rs[n])).2]) w) := by
 have hC := fun W (hW : Pts W A ps) (hWq : Qds W B qs) => damage_Carrier A B c cb lot qs ps W hn hcap hW hnq hcq hWq
 rw [hok] at hC
 have HC := Lib.hid hC
 obtain ⟨hck, j', hj', hj2, hcar⟩ := carrier_ok (qs := qs) (ps := ps) (by rw [hok])
 rw [hok] at hj'
 obtain rfl : j = j' := by simp only [] at hj'; omega
 have hbd := carries_bd hcar
 clear hC hok hj' hcar
 obtain ⟨b, o, rfl, hat⟩ := hq (by omega)
 have hj0 : (0 : Int) ≤ (j : Int) := by omega
 have hj1 : (j : Int) < (qs.length : Int) := by omega
 have hn0 : (0 : Int) ≤ (n : Int) := by omega
 have hn1 : (n : Int) < (rs.length : Int) := by omega
 have d1 : decide ((n : Int) < 0) = false := by simp
 have d2 : decide (rs.length ≤ n) = false := by simp; omega
 generalize hqj : qs[j] = q at *
 have Hqj := Lib.hid hqj
 clear hqj
 obtain ⟨qa, qb, qc, qd⟩ := q
 simp only [] at hbd hr
 subst hr
 obtain ⟨bd1, bd2, bd3, _, _⟩ := hbd
 obtain ⟨bc, oc, rfl, z0, z1, z2, z3, z4, z5, z6, zok⟩ := hrs.at_ hnr
 generalize rs[n] = r at *
 obtain ⟨rid, rwd, rln, rtl, rta, rtb, fa, fc, fl⟩ := r
 simp only [] at z0 z1 z2 z3 z4 z5 z6
 go_enter Tryz.func79, Tryz.ntmps79
 go_upto_region 4 with (first | (go_at_call 121; refine (HC.out _ (hp.later ((by repeat' (first | exact Later.refl _ | assumption | refine Later.drew ?_ | refine Later.drewN ?_ _ | refine Later.alloc ?_ _ | refine Later.put ?_ (by omega) _ | refine Later.trans ?_ (by assumption))))) (hq.later ((by repeat' (first | exact Later.refl _ | assumption | refine Later.drew ?_ | refine Later.drewN ?_ _ | refine Later.alloc ?_ _ | refine Later.put ?_ (by omega) _ | refine Later.trans ?_ (by assumption)))))).mono ?_; rintro e w1 ⟨rfl, hb1⟩))
 have hl1 : Later w w1 := (by repeat' (first | exact Later.refl _ | assumption | refine Later.drew ?_ | refine Later.drewN ?_ _ | refine Later.alloc ?_ _ | refine Later.put ?_ (by omega) _ | refine Later.trans ?_ (by assumption)))
 obtain ⟨e1, e2, e3, e4⟩ := (hat.later hl1).get hj
 rw [Hqj.out] at e1 e2 e3 e4
 have r1 : w1.cell? ⟨w.heap.size, 1, none⟩ = some (.slice (some ⟨b, o, none⟩) qs.length cb) := hb1.cell (by simp [go_sem])
 have hbz : b < w1.heap.size := World.block_lt_of_cell? _ _ e1
 have hgz : w.heap.size < w1.heap.size := World.block_lt_of_cell? _ _ r1
 have a0 := hl1.cell z0
 have a1 := hl1.cell z1
 have a2 := hl1.cell z2
 have a3 := hl1.cell z3
 have a4 := hl1.cell z4
 have a5 := hl1.cell z5
 have a6 := hl1.cell z6
 have hrok := zok.later hl1
 have hcz : bc < w1.heap.size := World.block_lt_of_cell? _ _ a0
 clear z0 z1 z2 z3 z4 z5 z6 zok
 have HK := Lib.hid (fun W (hW : Later w1 W) => roll_Check (⟨rid, rwd, rln, rtl, rta, rtb, fa, fc, fl⟩ : Rl) W (hrok.later hW))
 obtain ⟨hid, hfc, hfm, hqf, hqi, hints⟩ := hrok
 unfold Rl.agg at HK
 simp only [] at HK hfc hfm hqf hqi
 clear HC
 rcases Classical.em (rollI (⟨rid, rwd, rln, rtl, rta, rtb, fa, fc, fl⟩ : Rl) = 0) with hri | hri
 ·obtain ⟨_, hf20, hfb, hln, hwd⟩ := roll_ok hri
  simp only [] at hf20 hfb hln hwd
  have hfa := flawsBad_all.1 hfb
  rw [hri] at HK
  have Hv := Lib.hid (show rollHit ps ⟨(n : Int), qb, qc, qd⟩ (⟨rid, rwd, rln, rtl, rta, rtb, fa, fc, fl⟩ : Rl) = flawGo ps (qd - qb) fl by rw [rollHit, if_neg (by simpa using hri)])
  clear hri hfb
  go_wp2_with (first | (go_at_call 122; refine (HK.out _ ((by repeat' (first | exact Later.refl _ | assumption | refine Later.drew ?_ | refine Later.drewN ?_ _ | refine Later.alloc ?_ _ | refine Later.put ?_ (by omega) _ | refine Later.trans ?_ (by assumption))))).mono ?_; rintro e w2 ⟨rfl, hb2⟩; have p0 : w2.cell? ⟨w1.heap.size, 0, none⟩ = some (.int .i64 n) := hb2.cell (by simp [go_sem]); have p1 : w2.cell? ⟨w1.heap.size, 1, none⟩ = some (.int .i64 qb) := hb2.cell (by simp [go_sem]); have p3 : w2.cell? ⟨w1.heap.size, 3, none⟩ = some (.int .i64 qd) := hb2.cell (by simp [go_sem]); have b6 : w2.cell? ⟨bc, oc + n * 7 + 6, none⟩ = some (.slice fa fl.length fc) := hb2.cell (Later.cell ((Later.refl w1).alloc _) a6)))
  have hl12 : Later w1 w2 := ((Later.refl _).alloc _).trans hb2
  have hl2 : Later w w2 := hl1.trans hl12
  have hp2 := hp.later hl2
  have hq2 := hqf.later hl12
  clear a0 a1 a2 a3 a4 a5 a6 e1 e2 e3 e4 r1 HK hbz hgz hcz
  generalize w1.heap.size = gp1 at *
  go_loopw [6, 7, 56] (fun _ _ iv wr => ∃ k : Nat, k ≤ fl.length ∧ iv = .int .i64 k ∧ flawGo ps (qd - qb) fl = flawGo ps (qd - qb) (fl.drop k) ∧ Later w2 wr) (fun _ _ iv _ => fl.length - (intOf iv).toNat)
  case atStart => exact ⟨0, by omega, rfl, rfl, Later.refl _⟩
  case round =>
   obtain ⟨k, hk, rfl, he, hb⟩ := hrel
   have He := Lib.hid he
   clear he
   have g1 := hb.cell p1
   have g3 := hb.cell p3
   by_cases hlt : k < fl.length
   ·obtain ⟨bb, ob, rfl, hel⟩ := (hq2.later hb) (by omega)
    obtain ⟨e1, e2, e3, e4⟩ := hel.get hlt
    have hbz : bb < wr.heap.size := World.block_lt_of_cell? _ _ e1
    have hgz : gp1 < wr.heap.size := World.block_lt_of_cell? _ _ g1
    have Hd := Lib.hid (drop_cons' fl k hlt)
    have hi := flaw_in (hfa _ (List.getElem_mem hlt))
    generalize fl[k] = q at *
    obtain ⟨xa, xb, xc, xd⟩ := q
    simp only [] at hi e1 e2 e3 e4
    obtain ⟨i1, i2, i3, i4, i5, i6⟩ := hi
    have HH := Lib.hid (fun W (hW : Pts W A ps) => overlap_Hits A c ps (xa + (qd - qb)) xb xc xd W hn hcap hW ⟨by omega, by omega⟩ ⟨by omega, by omega⟩ ⟨by omega, by omega⟩ ⟨by omega, by omega⟩)
    rcases h2 : hitsR ps (xa + (qd - qb)) xb xc xd with ⟨hb0, he0⟩
    rw [h2] at HH
    have H2 := Lib.hid h2
    clear h2
    have hpr := hp2.later hb
    rcases Classical.em (he0 = 0) with h0 | h0
    ·subst h0
     rcases hb0 with _ | _
     ·go_wp2_with (first | (go_at_call 123; refine (HH.out _ (hpr.later ((by repeat' (first | exact Later.refl _ | assumption | refine Later.drew ?_ | refine Later.drewN ?_ _ | refine Later.alloc ?_ _ | refine Later.put ?_ (by omega) _ | refine Later.trans ?_ (by assumption)))))).mono ?_; rintro e w5 ⟨rfl, hb5⟩))
      go_roundw
      case rel => exact ⟨k + 1, by omega, by go_num, by rw [He.out, Hd.out, flaw_miss (by rw [H2.out]) (by rw [H2.out])], (by repeat' (first | exact Later.refl _ | assumption | refine Later.drew ?_ | refine Later.drewN ?_ _ | refine Later.alloc ?_ _ | refine Later.put ?_ (by omega) _ | refine Later.trans ?_ (by assumption)))⟩
      case measure => simp [intOf]; omega
     ·go_wp2_with (first | (go_at_call 123; refine (HH.out _ (hpr.later ((by repeat' (first | exact Later.refl _ | assumption | refine Later.drew ?_ | refine Later.drewN ?_ _ | refine Later.alloc ?_ _ | refine Later.put ?_ (by omega) _ | refine Later.trans ?_ (by assumption)))))).mono ?_; rintro e w5 ⟨rfl, hb5⟩))
      go_ret2
      exact ⟨by rw [Hv.out, He.out, Hd.out, flaw_hit (by rw [H2.out]) (by rw [H2.out])]; rfl, (by repeat' (first | exact Later.refl _ | assumption | refine Later.drew ?_ | refine Later.drewN ?_ _ | refine Later.alloc ?_ _ | refine Later.put ?_ (by omega) _ | refine Later.trans ?_ (by assumption)))⟩
    ·have d0 : (he0 != 0) = true := by simpa using h0
     go_wp2_with (first | (go_at_call 123; refine (HH.out _ (hpr.later ((by repeat' (first | exact Later.refl _ | assumption | refine Later.drew ?_ | refine Later.drewN ?_ _ | refine Later.alloc ?_ _ | refine Later.put ?_ (by omega) _ | refine Later.trans ?_ (by assumption)))))).mono ?_; rintro e w5 ⟨rfl, hb5⟩))
     go_ret2
     exact ⟨by rw [Hv.out, He.out, Hd.out, flaw_err (by rw [H2.out]; exact h0), H2.out]; rfl, (by repeat' (first | exact Later.refl _ | assumption | refine Later.drew ?_ | refine Later.drewN ?_ _ | refine Later.alloc ?_ _ | refine Later.put ?_ (by omega) _ | refine Later.trans ?_ (by assumption)))⟩
   ·go_wp2
    go_ret2
    exact ⟨by rw [Hv.out, He.out, List.drop_eq_nil_of_le (by omega)]; rfl, (by repeat' (first | exact Later.refl _ | assumption | refine Later.drew ?_ | refine Later.drewN ?_ _ | refine Later.alloc ?_ _ | refine Later.put ?_ (by omega) _ | refine Later.trans ?_ (by assumption)))⟩
 ·have hre : (rollI (⟨rid, rwd, rln, rtl, rta, rtb, fa, fc, fl⟩ : Rl) != 0) = true := by simpa using hri
  have Hv := Lib.hid (show rollHit ps ⟨(n : Int), qb, qc, qd⟩ (⟨rid, rwd, rln, rtl, rta, rtb, fa, fc, fl⟩ : Rl) = (false, rollI (⟨rid, rwd, rln, rtl, rta, rtb, fa, fc, fl⟩ : Rl)) by rw [rollHit, if_pos hri])
  clear hri
  generalize rollI (⟨rid, rwd, rln, rtl, rta, rtb, fa, fc, fl⟩ : Rl) = er at *
  go_wp2_with (first | (go_at_call 122; refine (HK.out _ ((by repeat' (first | exact Later.refl _ | assumption | refine Later.drew ?_ | refine Later.drewN ?_ _ | refine Later.alloc ?_ _ | refine Later.put ?_ (by omega) _ | refine Later.trans ?_ (by assumption))))).mono ?_; rintro e w2 ⟨rfl, hb2⟩))
  go_ret2
  exact ⟨by rw [Hv.out]; rfl, (by repeat' (first | exact Later.refl _ | assumption | refine Later.drew ?_ | refine Later.drewN ?_ _ | refine Later.alloc ?_ _ | refine Later.put ?_ (by omega) _ | refine Later.trans ?_ (by assumption)))⟩
theorem damage_Hit (hn : ps.length ≤ 1099511627776) (hcap : ps.length ≤ c) (hp : Pts w A ps) (hnq : qs.length ≤ 65536) (hcq : qs.length ≤ cb) (hq : Qds w B qs) (hrs : Rolls w C rs) (hrl : rs.length ≤ 65536) :
  Calls Tryz.prog 79 #[.agg #[.int .i64 lot, .slice B qs.length cb], .slice C rs.length cc, .slice A ps.length c] w (Ret (.tuple #[.bool (hitR qs rs ps).1, .int .i64 (hitR qs rs ps).2]) w) := by
 unfold hitR
 by_cases he : (carrierR qs ps).2 = 0
 ·rw [if_neg (by simpa using he)]
  obtain ⟨hck, j, hj1, hj, hcar⟩ := carrier_ok he
  have hok : carrierR qs ps = ((j : Int), 0) := by rw [← hj1, ← he]
  have hg : gq qs (carrierR qs ps).1.toNat = qs[j] := by rw [hj1, Int.toNat_natCast, gq]; simp [hj]
  rw [hg]
  by_cases hr : (qs[j]).a < 0 ∨ (rs.length : Int) ≤ (qs[j]).a
  ·rw [if_pos hr]
   exact damage_Hit_range A B C c cb cc lot qs rs ps w j hj hn hcap hp hnq hcq hq hok hr
  ·rw [if_neg hr]
   have hnr : (qs[j]).a.toNat < rs.length := by omega
   have hg2 : gr rs (qs[j]).a.toNat = rs[(qs[j]).a.toNat] := by rw [gr]; simp [hnr]
   rw [hg2]
   exact damage_Hit_in A B C c cb cc lot qs rs ps w j (qs[j]).a.toNat hj hn hcap hp hnq hcq hq hok hrs (by omega) hnr hrl
 ·rw [if_pos he]
  exact damage_Hit_err A B C c cb cc lot qs rs ps w hn hcap hp hnq hcq hq he
end
end Go.Proofs.YtdhakoecjmaebaaGreat
namespace Go.Proofs.YtdhakoecjmaebaaGreat
open Go.RowKit
set_option linter.unusedSimpArgs false
set_option linter.unusedVariables false
def rowErr (qs : List Qd) (rs : List Rl) : List (List Pt) → Int
 | [] => 0
 | p :: l => if (hitR qs rs p).2 ≠ 0 then (hitR qs rs p).2 else rowErr qs rs l
def tabErr (rs : List Rl) (polys : List (List Pt)) : List Py → Int
 | [] => 0
 | y :: l => if rowErr y.parts rs polys ≠ 0 then rowErr y.parts rs polys else tabErr rs polys l
def tabRows (rs : List Rl) (polys : List (List Pt)) (ys : List Py) : List (List Bool) := ys.map fun y => polys.map fun q => (hitR y.parts rs q).1
theorem row_bad {qs : List Qd} {rs : List Rl} {p : List Pt} {l : List (List Pt)} (h : (hitR qs rs p).2 ≠ 0) : rowErr qs rs (p :: l) = (hitR qs rs p).2 := by rw [rowErr, if_pos h]
theorem row_good {qs : List Qd} {rs : List Rl} {p : List Pt} {l : List (List Pt)} (h : (hitR qs rs p).2 = 0) : rowErr qs rs (p :: l) = rowErr qs rs l := by rw [rowErr, if_neg (by simpa using h)]
theorem tab_bad {rs : List Rl} {polys : List (List Pt)} {y : Py} {l : List Py} (h : rowErr y.parts rs polys ≠ 0) : tabErr rs polys (y :: l) = rowErr y.parts rs polys := by rw [tabErr, if_pos h]
theorem tab_good {rs : List Rl} {polys : List (List Pt)} {y : Py} {l : List Py} (h : rowErr y.parts rs polys = 0) : tabErr rs polys (y :: l) = tabErr rs polys l := by rw [tabErr, if_neg (by simpa using h)]
def BoolsV (w : World) (v : Value) (bs : List Bool) : Prop :=
 ∃ A c, v = .slice A bs.length c ∧ bs.length ≤ c ∧ (0 < bs.length → ∃ b o, A = some ⟨b, o, none⟩ ∧ ∀ i x, bs[i]? = some x → w.cell? ⟨b, o + i, none⟩ = some (.bool x))
theorem BoolsV.later {w w' : World} {v : Value} {bs : List Bool} (h : BoolsV w v bs) (k : Later w w') : BoolsV w' v bs :=
 let ⟨A, c, e, h1, h2⟩ := h; ⟨A, c, e, h1, fun hn => let ⟨b, o, e', h3⟩ := h2 hn; ⟨b, o, e', fun i x hx => k.cell (h3 i x hx)⟩⟩
def Tab (w : World) (A : Option Addr) (rows : List (List Bool)) : Prop :=
 0 < rows.length → ∃ b o, A = some ⟨b, o, none⟩ ∧ ∀ i r, rows[i]? = some r → ∃ v, w.cell? ⟨b, o + i, none⟩ = some v ∧ BoolsV w v r
theorem Tab.later {w w' : World} {A : Option Addr} {rows : List (List Bool)} (h : Tab w A rows) (k : Later w w') : Tab w' A rows :=
 fun hn => let ⟨b, o, e, h1⟩ := h hn; ⟨b, o, e, fun i r hr => let ⟨v, hv, hb⟩ := h1 i r hr; ⟨v, k.cell hv, hb.later k⟩⟩
def TabPost (e0 : Int) (rows : List (List Bool)) (w : World) (e : Ending) (w' : World) : Prop :=
 (e0 = 0 ∧ ∃ A c, e = .returned (.tuple #[.slice A rows.length c, .int .i64 0]) ∧ rows.length ≤ c ∧ Tab w' A rows ∧ Later w w') ∨
 (e0 ≠ 0 ∧ e = .returned (.tuple #[.slice none 0 0, .int .i64 e0]) ∧ Later w w')
theorem rowIs_later {w w' : World} {b : Nat} {t : TypeId} {n : Nat} {f : Nat → Value} (h : w.rowIs b t n f) (k : Later w w') : w'.rowIs b t n f := h.of_block (k.block b h.lt)
def TabRel (w wr : World) (T n m k : Nat) (rs : List Rl) (polys : List (List Pt)) (ys : List Py) : Prop :=
 ∃ F : Nat → Nat, wr.rowIs T 111 n (fun j => if j < k then .slice (some ⟨F j, 0, none⟩) m m else .slice none 0 0) ∧
  ∀ j y, ys[j]? = some y → j < k → wr.rowIs (F j) 4 m (fun i => .bool (hitR y.parts rs (polys.getD i [])).1) ∧ F j ≠ T ∧ w.heap.size ≤ F j
theorem TabRel.later {w wr w' : World} {T n m k : Nat} {rs : List Rl} {polys : List (List Pt)} {ys : List Py} (h : TabRel w wr T n m k rs polys ys) (hk : Later wr w') : TabRel w w' T n m k rs polys ys :=
 let ⟨F, h1, h2⟩ := h; ⟨F, rowIs_later h1 hk, fun j y hy hj => ⟨rowIs_later (h2 j y hy hj).1 hk, (h2 j y hy hj).2⟩⟩
theorem TabRel.done {w wr : World} {T m : Nat} {rs : List Rl} {polys : List (List Pt)} {ys : List Py} (hm : m = polys.length) (h : TabRel w wr T ys.length m ys.length rs polys ys) : Tab wr (some ⟨T, 0, none⟩) (tabRows rs polys ys) := by
 subst hm
 intro h0
 obtain ⟨F, h1, h2⟩ := h
 refine ⟨T, 0, rfl, fun i r hr => ?_⟩
 simp only [tabRows, List.getElem?_map, Option.map_eq_some_iff] at hr
 obtain ⟨y, hy, rfl⟩ := hr
 have hi : i < ys.length := (List.getElem?_eq_some_iff.1 hy).1
 have h3 := h1.cell hi
 rw [if_pos hi] at h3
 refine ⟨_, by rw [Nat.zero_add]; exact h3, some ⟨F i, 0, none⟩, polys.length, by simp, by simp, fun hp => ⟨F i, 0, rfl, fun j x hx => ?_⟩⟩
 simp only [List.getElem?_map, Option.map_eq_some_iff] at hx
 obtain ⟨q, hq, rfl⟩ := hx
 have hj : j < polys.length := (List.getElem?_eq_some_iff.1 hq).1
 have h4 := (h2 i y hy hi).1.cell hj
 rw [Nat.zero_add, h4]
 congr 2
 rw [List.getD_eq_getElem?_getD, hq]
 rfl
theorem TabRel.step {w wr wq : World} {T n m k g : Nat} {rs : List Rl} {polys : List (List Pt)} {ys : List Py} {y : Py} (hy : ys[k]? = some y) (F : Nat → Nat)
  (h1 : wq.rowIs T 111 n (fun j => if j = k then .slice (some ⟨g, 0, none⟩) m m else if j < k then .slice (some ⟨F j, 0, none⟩) m m else .slice none 0 0))
  (h2 : ∀ j y, ys[j]? = some y → j < k → wq.rowIs (F j) 4 m (fun i => .bool (hitR y.parts rs (polys.getD i [])).1) ∧ F j ≠ T ∧ w.heap.size ≤ F j)
  (hg : wq.rowIs g 4 m (fun i => if i < m then .bool (hitR y.parts rs (polys.getD i [])).1 else .bool false)) (hgT : g ≠ T) (hgw : w.heap.size ≤ g) : TabRel w wq T n m (k + 1) rs polys ys := by
 refine ⟨fun j => if j = k then g else F j, h1.congr fun j hj => ?_, fun j y' hy' hj => ?_⟩
 ·by_cases h : j = k
  ·subst h; simp
  ·rw [if_neg h]
   by_cases h' : j < k
   ·rw [if_pos h', if_pos (by omega)]; simp only [if_neg h]
   ·rw [if_neg h', if_neg (by omega)]
 ·by_cases h : j = k
  ·subst h
   rw [hy] at hy'
   cases hy'
   simp only [if_true]
   exact ⟨hg.congr fun i hi => by rw [if_pos hi], hgT, hgw⟩
  ·simp only [if_neg h]
   exact h2 j y' hy' (by omega)
def InRel (w wq : World) (T n m k G : Nat) (F : Nat → Nat) (rs : List Rl) (polys : List (List Pt)) (ys : List Py) (y : Py) (i : Nat) : Prop :=
 wq.cell? ⟨G, 0, none⟩ = some (.int .i64 y.lot) ∧ wq.cell? ⟨G, 1, none⟩ = some (.slice y.pa y.parts.length y.pc) ∧
 wq.rowIs T 111 n (fun j => if j = k then .slice (some ⟨G + 1, 0, none⟩) m m else if j < k then .slice (some ⟨F j, 0, none⟩) m m else .slice none 0 0) ∧
 (∀ j y', ys[j]? = some y' → j < k → wq.rowIs (F j) 4 m (fun i => .bool (hitR y'.parts rs (polys.getD i [])).1) ∧ F j ≠ T ∧ w.heap.size ≤ F j ∧ F j < G) ∧
 wq.rowIs (G + 1) 4 m (fun j => if j < i then .bool (hitR y.parts rs (polys.getD j [])).1 else .bool false) ∧ T < G
theorem InRel.later {w wq w' : World} {T n m k G : Nat} {F : Nat → Nat} {rs : List Rl} {polys : List (List Pt)} {ys : List Py} {y : Py} {i : Nat} (h : InRel w wq T n m k G F rs polys ys y i) (hk : Later wq w') : InRel w w' T n m k G F rs polys ys y i :=
 ⟨hk.cell h.1, hk.cell h.2.1, rowIs_later h.2.2.1 hk, fun j y' hy hj => ⟨rowIs_later (h.2.2.2.1 j y' hy hj).1 hk, (h.2.2.2.1 j y' hy hj).2⟩, rowIs_later h.2.2.2.2.1 hk, h.2.2.2.2.2⟩
theorem InRel.put {w wq : World} {T n m k G : Nat} {F : Nat → Nat} {rs : List Rl} {polys : List (List Pt)} {ys : List Py} {y : Py} {i : Nat} (h : InRel w wq T n m k G F rs polys ys y i) {x : Bool} (hx : x = (hitR y.parts rs (polys.getD i [])).1) :
  InRel w (wq.setCell ⟨G + 1, i, none⟩ (.bool x)) T n m k G F rs polys ys y (i + 1) := by
 obtain ⟨h1, h2, h3, h4, h5, h6⟩ := h
 refine ⟨?_, ?_, h3.setOther (by simp; omega) _, fun j y' hy hj => ⟨(h4 j y' hy hj).1.setOther (by have := (h4 j y' hy hj).2.2.2; simp; omega) _, (h4 j y' hy hj).2⟩, ?_, h6⟩
 ·rw [World.cell?_setCell_far _ _ _ _ (by simp)]; exact h1
 ·rw [World.cell?_setCell_far _ _ _ _ (by simp)]; exact h2
 ·refine (h5.set i _).congr fun j hj => ?_
  by_cases e : j = i
  ·subst e; rw [if_pos rfl, if_pos (by omega), hx]
  ·rw [if_neg e]
   by_cases e' : j < i
   ·rw [if_pos e', if_pos (by omega)]
   ·rw [if_neg e', if_neg (by omega)]
theorem InRel.done {w wq : World} {T n m k G : Nat} {F : Nat → Nat} {rs : List Rl} {polys : List (List Pt)} {ys : List Py} {y : Py} (h : InRel w wq T n m k G F rs polys ys y m) (hy : ys[k]? = some y) (hG : w.heap.size ≤ G) : TabRel w wq T n m (k + 1) rs polys ys := by
 obtain ⟨h1, h2, h3, h4, h5, h6⟩ := h
 exact TabRel.step (wr := w) hy F h3 (fun j y' hy hj => ⟨(h4 j y' hy hj).1, (h4 j y' hy hj).2.1, (h4 j y' hy hj).2.2.1⟩) h5 (by omega) (by omega)
theorem info_row : (Tryz.prog.info? 111).map (fun i => (i.zero, i.size, i.bytes)) = some (some (.slice none 0 0), 1, 24) := by kernel_rfl
theorem info_bool : (Tryz.prog.info? 4).map (fun i => (i.zero, i.size, i.bytes)) = some (some (.bool false), 1, 1) := by kernel_rfl
def PtsOk (l : List (List Pt)) : Prop := ∀ p ∈ l, p.length ≤ 1099511627776
theorem Polys.at_ {w : World} {A : Option Addr} {l : List (List Pt)} (h : Polys w A l) {k : Nat} (hk : k < l.length) :
  ∃ b o A' c', A = some ⟨b, o, none⟩ ∧ w.cell? ⟨b, o + k, none⟩ = some (.slice A' (l[k]).length c') ∧ (l[k]).length ≤ c' ∧ Pts w A' (l[k]) := by
 obtain ⟨b, o, e, hc⟩ := h (by omega)
 obtain ⟨v, hv, A', c', rfl, h1, h2, h3⟩ := hc k _ (List.getElem?_eq_getElem hk)
 exact ⟨b, o, A', c', e, hv, h1, h3⟩
set_option maxHeartbeats 4000000 in
theorem damage_Table_ok (P C Q S1 S2 : Option Addr) (pc cc qc n1 c1 n2 c2 : Nat) (l0 l1 l2 l3 : Int) (ys : List Py) (rs : List Rl) (polys : List (List Pt)) (w : World)
  (hy : Plys w P ys) (hrs : Rolls w C rs) (hps : Polys w Q polys) (hrl : rs.length ≤ 65536) (hparts : ∀ y ∈ ys, y.parts.length ≤ 65536) (hpl : PtsOk polys) (h40 : ys.length ≤ 40) (h60 : polys.length ≤ 60) :
  Calls Tryz.prog 40 #[.agg #[.int .i64 l0, .int .i64 l1, .int .i64 l2, .int .i64 l3, .slice S1 n1 c1, .slice S2 n2 c2, .slice P ys.length pc], .slice C rs.length cc, .slice Q polys.length qc] w
   (TabPost (tabErr rs polys ys) (tabRows rs polys ys) w) := by
 obtain ⟨i0, hi, hz0, hz1, hz2⟩ := info_parts info_row
 obtain ⟨j0, hj, hy0, hy1, hy2⟩ := info_parts info_bool
 have hmk := fun W => run_make_rows (P := Tryz.prog) 106 111 i0 _ Tryz.underlying106 hi hz0 ys.length (by rw [hz2]; omega) (by omega) W
 have hmk2 := fun W => run_make_rows (P := Tryz.prog) 111 4 j0 _ Tryz.underlying111 hj hy0 polys.length (by rw [hy2]; omega) (by omega) W
 rw [hz1] at hmk
 rw [hy1] at hmk2
 simp only [Nat.mul_one] at hmk hmk2
 clear hi hz0 hz1 hz2 hj hy0 hy1 hy2
 have d40 : decide ((40 : Int) < (ys.length : Int)) = false := by simp; omega
 have d60 : decide ((60 : Int) < (polys.length : Int)) = false := by simp; omega
 go_enter Tryz.func40, Tryz.ntmps40
 go_wp2
 refine name_world (fun W9 hW9 => ?_)
 have hT : W9.rowIs (w.heap.size + 1) 111 ys.length (fun _ => .slice none 0 0) := by
  rw [hW9]
  have := World.rowIs_made (w.alloc (.cells #[.int .i64 l0, .int .i64 l1, .int .i64 l2, .int .i64 l3, .slice S1 n1 c1, .slice S2 n2 c2, .slice P ys.length pc] 70)) (.slice none 0 0) ys.length 111
  rw [World.size_alloc] at this
  exact this
 have hl9 : Later w W9 := by rw [hW9]; exact (by repeat' (first | exact Later.refl _ | assumption | refine Later.drew ?_ | refine Later.drewN ?_ _ | refine Later.alloc ?_ _ | refine Later.put ?_ (by omega) _ | refine Later.trans ?_ (by assumption)))
 clear hW9 hmk d40 d60
 have hTw : w.heap.size ≤ w.heap.size + 1 := by omega
 generalize hTe : w.heap.size + 1 = T at *
 clear hTe
 go_loopw [31] (fun iv wr => ∃ k : Nat, k ≤ ys.length ∧ iv = .int .i64 k ∧ tabErr rs polys ys = tabErr rs polys (ys.drop k) ∧ Later w wr ∧ TabRel w wr T ys.length polys.length k rs polys ys) (fun iv _ => ys.length - (intOf iv).toNat)
 case atStart => exact ⟨0, by omega, rfl, rfl, hl9, fun _ => 0, hT.congr (fun j hj => by simp), fun j y _ hj => by omega⟩
 case round =>
  clear hT hl9
  obtain ⟨k, hk, rfl, he, hb, F, hT, hF⟩ := hrel
  have He := Lib.hid he
  clear he
  by_cases hlt : k < ys.length
  ·have hokw : PyOk w ys[k] := by obtain ⟨_, _, _, _, _, h⟩ := hy.at_ hlt; exact h
   obtain ⟨bb, ob, rfl, e1, e2, hok⟩ := (hy.later hb).at_ hlt
   have hbz : bb < wr.heap.size := World.block_lt_of_cell? _ _ e1
   have hTz := hT.lt
   have hwz := hb.size
   have c1 := hT.cell hlt
   simp only [Nat.lt_irrefl, if_false] at c1
   have f1 := hT.frozen k
   have Hd := Lib.hid (drop_cons' ys k hlt)
   have Hy := Lib.hid (List.getElem?_eq_getElem hlt)
   have hpn := hparts _ (List.getElem_mem hlt)
   generalize ys[k] = y at *
   obtain ⟨lot, pa, pc', parts⟩ := y
   simp only [] at e1 e2 hpn
   obtain ⟨hpc, hpm, hqd, hqi⟩ := hokw
   simp only [] at hpc hpm hqd hqi
   clear hok
   have hk0 : (0 : Int) ≤ (k : Int) := by omega
   have hk1 : (k : Int) < (ys.length : Int) := by omega
   go_wp2
   refine name_world (fun W2 hW2 => ?_)
   have hl2 : Later w W2 := by rw [hW2]; exact (by repeat' (first | exact Later.refl _ | assumption | refine Later.drew ?_ | refine Later.drewN ?_ _ | refine Later.alloc ?_ _ | refine Later.put ?_ (by omega) _ | refine Later.trans ?_ (by assumption)))
   have hTG : T ≠ wr.heap.size := by omega
   have hTG1 : T ≠ wr.heap.size + 1 := by omega
   have hI : InRel w W2 T ys.length polys.length k wr.heap.size F rs polys ys ⟨lot, pa, pc', parts⟩ 0 := by
    rw [hW2]
    refine ⟨by simp [go_sem, hTG], by simp [go_sem, hTG], ?_, ?_, ?_, hTz⟩
    ·exact ((hT.set k _).alloc _).alloc _
    ·intro j y' hy' hj
     obtain ⟨q1, q2, q3⟩ := hF j y' hy' hj
     exact ⟨((q1.setOther (a := ⟨T, k, none⟩) q2 _).alloc _).alloc _, q2, q3, q1.lt⟩
    ·have := World.rowIs_made ((wr.setCell ⟨T, k, none⟩ (.slice (some ⟨wr.heap.size + 1, 0, none⟩) polys.length polys.length)).alloc (.cells #[.int .i64 lot, .slice pa parts.length pc'] 95)) (.bool false) polys.length 4
     rw [show ((wr.setCell ⟨T, k, none⟩ (.slice (some ⟨wr.heap.size + 1, 0, none⟩) polys.length polys.length)).alloc (.cells #[.int .i64 lot, .slice pa parts.length pc'] 95)).heap.size = wr.heap.size + 1 by simp] at this
     exact this.congr (fun j hj => by simp)
   clear hW2 hmk2 c1 f1 e1 e2 hT hF hbz hTG hTG1
   have hGw : w.heap.size ≤ wr.heap.size := hwz
   generalize wr.heap.size = G at *
   have HH := Lib.hid (fun (A' : Option Addr) (c' : Nat) (ps : List Pt) (W : World) (h1 : ps.length ≤ 1099511627776) (h2 : ps.length ≤ c') (h3 : Pts W A' ps) (h4 : Qds W pa parts) (h5 : Rolls W C rs) => damage_Hit A' pa C c' pc' cc lot parts rs ps W h1 h2 h3 hpn hpc h4 h5 hrl)
   obtain ⟨wo, rfl⟩ : ∃ wo : World, wo = wr := ⟨_, rfl⟩
   go_loopw [44] (fun iv wq => ∃ i : Nat, i ≤ polys.length ∧ iv = .int .i64 i ∧ rowErr parts rs polys = rowErr parts rs (polys.drop i) ∧ Later w wq ∧ InRel w wq T ys.length polys.length k G F rs polys ys ⟨lot, pa, pc', parts⟩ i) (fun iv _ => polys.length - (intOf iv).toNat)
   case atStart => exact ⟨0, by omega, rfl, rfl, hl2, hI⟩
   case round =>
    clear hI hl2
    obtain ⟨i, hi, rfl, he, hb2, hI⟩ := hrel
    have hq2 := hqd.later hb2
    have He2 := Lib.hid he
    clear he
    by_cases hli : i < polys.length
    ·obtain ⟨bq, oq, A', c', rfl, k1, k2, k3⟩ := (hps.later hb2).at_ hli
     have Hd2 := Lib.hid (drop_cons' polys i hli)
     have Hg := Lib.hid (show polys.getD i [] = polys[i] by simp [hli])
     have hpn2 := hpl _ (List.getElem_mem hli)
     generalize polys[i] = ps at *
     have hbz : bq < wr.heap.size := World.block_lt_of_cell? _ _ k1
     have g0 := hI.1
     have g1 := hI.2.1
     simp only [] at g0 g1
     have hG1 := World.block_lt_of_cell? _ _ g0
     have hrs2 := hrs.later hb2
     have HH2 := Lib.hid (HH.out A' c' ps wr hpn2 k2 k3 hq2 hrs2)
     have hi0 : (0 : Int) ≤ (i : Int) := by omega
     have hi1 : (i : Int) < (polys.length : Int) := by omega
     rcases h2 : hitR parts rs ps with ⟨hb0, he0⟩
     rw [h2] at HH2
     have H2 := Lib.hid h2
     clear h2
     rcases Classical.em (he0 = 0) with h0 | h0
     ·subst h0
      go_wp2_with (first | (go_at_call 79; refine HH2.out.mono ?_; rintro e w5 ⟨rfl, hb5⟩; have t0 := (hI.later hb5).2.2.1.cell hlt; have r0 := (hI.later hb5).2.2.2.2.1.cell hli; have rf := (hI.later hb5).2.2.2.2.1.frozen i; simp only [if_true, Nat.lt_irrefl, if_false] at t0 r0))
      go_roundw
      case rel => exact ⟨i + 1, by omega, by go_num, by rw [He2.out, Hd2.out, row_good (by rw [H2.out])], (hb2.trans hb5).put (by omega) _, (hI.later hb5).put (by rw [Hg.out, H2.out])⟩
      case measure => simp [intOf]; omega
     ·have d0 : (he0 != 0) = true := by simpa using h0
      go_wp2_with (first | (go_at_call 79; refine HH2.out.mono ?_; rintro e w5 ⟨rfl, hb5⟩))
      go_ret2
      have hre : rowErr parts rs polys = he0 := by rw [He2.out, Hd2.out, row_bad (by rw [H2.out]; exact h0), H2.out]
      have hte : tabErr rs polys ys = he0 := by rw [He.out, Hd.out, tab_bad (by show rowErr parts rs polys ≠ 0; rw [hre]; exact h0)]; exact hre
      exact .inr ⟨by rw [hte]; exact h0, by rw [hte]; rfl, hb2.trans hb5⟩
    ·have hie : i = polys.length := by omega
     subst hie
     have h0 : rowErr parts rs polys = 0 := by rw [He2.out, List.drop_eq_nil_of_le (by omega)]; rfl
     have H0 := Lib.hid h0
     clear h0 He2
     go_wp2
     go_roundw
     case rel => exact ⟨k + 1, by omega, by go_num, by rw [He.out, Hd.out, tab_good H0.out], hb2, hI.done Hy.out hGw⟩
     case measure => simp [intOf]; omega
  ·have hke : k = ys.length := by omega
   subst hke
   have h0 : tabErr rs polys ys = 0 := by rw [He.out, List.drop_eq_nil_of_le (by omega)]; rfl
   have H0 := Lib.hid h0
   clear h0 He
   go_wp2
   go_ret2
   refine .inl ⟨H0.out, some ⟨T, 0, none⟩, ys.length, ?_, by simp [tabRows], TabRel.done rfl ⟨F, hT, hF⟩, (by repeat' (first | exact Later.refl _ | assumption | refine Later.drew ?_ | refine Later.drewN ?_ _ | refine Later.alloc ?_ _ | refine Later.put ?_ (by omega) _ | refine Later.trans ?_ (by assumption)))⟩
   simp [tabRows]
end Go.Proofs.YtdhakoecjmaebaaGreat
