/-
  The walk of damage.Hit.
-/
import Derived.Test.YtolddfapanabbaaRoll
namespace Go.Proofs.Ytolddfapanabbaa
open Go.RowKit
set_option linter.unusedSimpArgs false
set_option linter.unusedVariables false

/-- Whether one of the flaws hits, and the error. -/
def flawGo (ps : List Pt) (d : Int) : List Qd → Bool × Int
  | [] => (false, 0)
  | f :: l => if (hitsR ps (f.a + d) f.b f.c f.d).2 ≠ 0 then (false, (hitsR ps (f.a + d) f.b f.c f.d).2) else if (hitsR ps (f.a + d) f.b f.c f.d).1 = true then (true, 0) else flawGo ps d l
def rollHit (ps : List Pt) (x : Qd) (r : Rl) : Bool × Int := if rollI r ≠ 0 then (false, rollI r) else flawGo ps (x.d - x.b) r.fl
def gq (qs : List Qd) (j : Nat) : Qd := qs.getD j ⟨0, 0, 0, 0⟩
def gr (rs : List Rl) (j : Nat) : Rl := rs.getD j ⟨⟨#[]⟩, 0, 0, 0, 0, 0, none, 0, []⟩
/-- What damage.Hit returns. -/
def hitR (qs : List Qd) (rs : List Rl) (ps : List Pt) : Bool × Int :=
  if (carrierR qs ps).2 ≠ 0 then (false, (carrierR qs ps).2)
  else if (gq qs (carrierR qs ps).1.toNat).a < 0 ∨ (rs.length : Int) ≤ (gq qs (carrierR qs ps).1.toNat).a then (false, 3)
  else rollHit ps (gq qs (carrierR qs ps).1.toNat) (gr rs (gq qs (carrierR qs ps).1.toNat).a.toNat)

theorem carrierGo_ok {lo hi : Int} : ∀ {l : List Qd} {k : Nat}, (carrierGo lo hi l k).2 = 0 → ∃ j, (carrierGo lo hi l k).1 = ((k + j : Nat) : Int) ∧ ∃ h : j < l.length, carriesB l[j] lo hi = true := by
  intro l
  induction l with
  | nil => intro k h; cases h
  | cons p l ih =>
    intro k h
    rw [carrierGo] at h ⊢
    by_cases hc : carriesB p lo hi = true
    · rw [if_pos hc]
      exact ⟨0, rfl, by simp, hc⟩
    · rw [if_neg hc] at h ⊢
      obtain ⟨j, e, hj, hp⟩ := ih h
      exact ⟨j + 1, by rw [e]; congr 1; omega, by simp; omega, hp⟩
theorem carrier_ok {qs : List Qd} {ps : List Pt} (h : (carrierR qs ps).2 = 0) : checkI ps = 0 ∧ ∃ j : Nat, (carrierR qs ps).1 = (j : Int) ∧ ∃ hj : j < qs.length, carriesB qs[j] (loOf ps).x (hiOf ps).x = true := by
  unfold carrierR at h ⊢
  by_cases hc : checkI ps = 0
  · rw [if_pos hc] at h ⊢
    obtain ⟨j, e, hj, hp⟩ := carrierGo_ok h
    exact ⟨hc, j, by rw [e]; simp, hj, hp⟩
  · rw [if_neg hc] at h
    exact absurd h hc
theorem carries_bd {q : Qd} {lo hi : Int} (h : carriesB q lo hi = true) : (0 ≤ q.d ∧ q.d ≤ 1048576) ∧ (0 ≤ q.b ∧ q.b ≤ 1048576) ∧ (0 ≤ q.c ∧ q.c ≤ 1048576) ∧ q.d ≤ lo ∧ hi ≤ q.d + q.c - q.b := by
  unfold carriesB at h
  simp only [Bool.and_eq_true, decide_eq_true_eq] at h
  exact ⟨coord_bd h.1, coord_bd h.2.1, coord_bd h.2.2.1, h.2.2.2.1, h.2.2.2.2⟩
theorem flaw_err {ps : List Pt} {d : Int} {f : Qd} {l : List Qd} (h : (hitsR ps (f.a + d) f.b f.c f.d).2 ≠ 0) : flawGo ps d (f :: l) = (false, (hitsR ps (f.a + d) f.b f.c f.d).2) := by rw [flawGo, if_pos h]
theorem flaw_hit {ps : List Pt} {d : Int} {f : Qd} {l : List Qd} (h : (hitsR ps (f.a + d) f.b f.c f.d).2 = 0) (h1 : (hitsR ps (f.a + d) f.b f.c f.d).1 = true) : flawGo ps d (f :: l) = (true, 0) := by rw [flawGo, if_neg (by simpa using h), if_pos h1]
theorem flaw_miss {ps : List Pt} {d : Int} {f : Qd} {l : List Qd} (h : (hitsR ps (f.a + d) f.b f.c f.d).2 = 0) (h1 : (hitsR ps (f.a + d) f.b f.c f.d).1 = false) : flawGo ps d (f :: l) = flawGo ps d l := by rw [flawGo, if_neg (by simpa using h), if_neg (by simp [h1])]

section
variable (A B C : Option Addr) (c cb cc : Nat) (lot : Int) (qs : List Qd) (rs : List Rl) (ps : List Pt) (w : World)

set_option maxHeartbeats 1000000 in
theorem damage_Hit_err (hn : ps.length ≤ 1099511627776) (hcap : ps.length ≤ c) (hp : Pts w A ps) (hnq : qs.length ≤ 65536) (hcq : qs.length ≤ cb) (hq : Qds w B qs) (hok : (carrierR qs ps).2 ≠ 0) :
    Calls Try.prog 18 #[.agg #[.int .i64 lot, .slice B qs.length cb], .slice C rs.length cc, .slice A ps.length c] w (Ret (.tuple #[.bool false, .int .i64 (carrierR qs ps).2]) w) := by
  have hC := fun W (hW : Pts W A ps) (hWq : Qds W B qs) => damage_Carrier A B c cb lot qs ps W hn hcap hW hnq hcq hWq
  have HC := Lib.hid hC
  generalize carrierR qs ps = R at *
  obtain ⟨ci, er⟩ := R
  have h0 : (er != 0) = true := by simpa using hok
  clear hC hok
  go_enter Try.func18, Try.ntmps18
  go_wp2_with (first | (go_at_call 16; refine (HC.out _ (hp.later ((by repeat' (first | exact Later.refl _ | assumption | refine Later.drew ?_ | refine Later.drewN ?_ _ | refine Later.alloc ?_ _ | refine Later.put ?_ (by omega) _ | refine Later.trans ?_ (by assumption))))) (hq.later ((by repeat' (first | exact Later.refl _ | assumption | refine Later.drew ?_ | refine Later.drewN ?_ _ | refine Later.alloc ?_ _ | refine Later.put ?_ (by omega) _ | refine Later.trans ?_ (by assumption)))))).mono ?_; rintro e w1 ⟨rfl, hb1⟩))
  go_ret2
  exact ⟨rfl, (by repeat' (first | exact Later.refl _ | assumption | refine Later.drew ?_ | refine Later.drewN ?_ _ | refine Later.alloc ?_ _ | refine Later.put ?_ (by omega) _ | refine Later.trans ?_ (by assumption)))⟩

set_option maxHeartbeats 2000000 in
theorem damage_Hit_range (j : Nat) (hj : j < qs.length) (hn : ps.length ≤ 1099511627776) (hcap : ps.length ≤ c) (hp : Pts w A ps) (hnq : qs.length ≤ 65536) (hcq : qs.length ≤ cb) (hq : Qds w B qs) (hok : carrierR qs ps = ((j : Int), 0))
    (hr : (qs[j]).a < 0 ∨ (rs.length : Int) ≤ (qs[j]).a) :
    Calls Try.prog 18 #[.agg #[.int .i64 lot, .slice B qs.length cb], .slice C rs.length cc, .slice A ps.length c] w (Ret (.tuple #[.bool false, .int .i64 3]) w) := by
  have hC := fun W (hW : Pts W A ps) (hWq : Qds W B qs) => damage_Carrier A B c cb lot qs ps W hn hcap hW hnq hcq hWq
  rw [hok] at hC
  have HC := Lib.hid hC
  clear hC hok
  obtain ⟨b, o, rfl, hat⟩ := hq (by omega)
  have hj0 : (0 : Int) ≤ (j : Int) := by omega
  have hj1 : (j : Int) < (qs.length : Int) := by omega
  generalize hqj : qs[j] = q at hr
  have Hqj := Lib.hid hqj
  clear hqj
  go_enter Try.func18, Try.ntmps18
  go_upto_region 4 with (first | (go_at_call 16; refine (HC.out _ (hp.later ((by repeat' (first | exact Later.refl _ | assumption | refine Later.drew ?_ | refine Later.drewN ?_ _ | refine Later.alloc ?_ _ | refine Later.put ?_ (by omega) _ | refine Later.trans ?_ (by assumption))))) (hq.later ((by repeat' (first | exact Later.refl _ | assumption | refine Later.drew ?_ | refine Later.drewN ?_ _ | refine Later.alloc ?_ _ | refine Later.put ?_ (by omega) _ | refine Later.trans ?_ (by assumption)))))).mono ?_; rintro e w1 ⟨rfl, hb1⟩))
  have hl1 : Later w w1 := (by repeat' (first | exact Later.refl _ | assumption | refine Later.drew ?_ | refine Later.drewN ?_ _ | refine Later.alloc ?_ _ | refine Later.put ?_ (by omega) _ | refine Later.trans ?_ (by assumption)))
  obtain ⟨e1, e2, e3, e4⟩ := (hat.later hl1).get hj
  rw [Hqj.out] at e1 e2 e3 e4
  have r1 : w1.cell? ⟨w.heap.size, 1, none⟩ = some (.slice (some ⟨b, o, none⟩) qs.length cb) := hb1.cell (by simp [go_sem])
  have hbz : b < w1.heap.size := World.block_lt_of_cell? _ _ e1
  have hgz : w.heap.size < w1.heap.size := World.block_lt_of_cell? _ _ r1
  obtain ⟨qa, qb, qc, qd⟩ := q
  by_cases h1 : qa < 0
  · have d1 : decide (qa < 0) = true := by simpa using h1
    go_wp2
    go_ret2
    exact ⟨rfl, (by repeat' (first | exact Later.refl _ | assumption | refine Later.drew ?_ | refine Later.drewN ?_ _ | refine Later.alloc ?_ _ | refine Later.put ?_ (by omega) _ | refine Later.trans ?_ (by assumption)))⟩
  · have d1 : decide (qa < 0) = false := by simpa using h1
    have h2 : (rs.length : Int) ≤ qa := by simp only [] at hr; omega
    have d2 : decide ((rs.length : Int) ≤ qa) = true := by simpa using h2
    go_wp2
    go_ret2
    exact ⟨rfl, (by repeat' (first | exact Later.refl _ | assumption | refine Later.drew ?_ | refine Later.drewN ?_ _ | refine Later.alloc ?_ _ | refine Later.put ?_ (by omega) _ | refine Later.trans ?_ (by assumption)))⟩
set_option maxHeartbeats 4000000 in
theorem damage_Hit_in (j n : Nat) (hj : j < qs.length) (hn : ps.length ≤ 1099511627776) (hcap : ps.length ≤ c) (hp : Pts w A ps) (hnq : qs.length ≤ 65536) (hcq : qs.length ≤ cb) (hq : Qds w B qs) (hok : carrierR qs ps = ((j : Int), 0))
    (hrs : Rolls w C rs) (hr : (qs[j]).a = (n : Int)) (hnr : n < rs.length) (hrl : rs.length ≤ 65536) :
    Calls Try.prog 18 #[.agg #[.int .i64 lot, .slice B qs.length cb], .slice C rs.length cc, .slice A ps.length c] w (Ret (.tuple #[.bool (rollHit ps (qs[j]) (rs[n])).1, .int .i64 (rollHit ps (qs[j]) (rs[n])).2]) w) := by
  have hC := fun W (hW : Pts W A ps) (hWq : Qds W B qs) => damage_Carrier A B c cb lot qs ps W hn hcap hW hnq hcq hWq
  rw [hok] at hC
  have HC := Lib.hid hC
  obtain ⟨hck, j', hj', hj2, hcar⟩ := carrier_ok (qs := qs) (ps := ps) (by rw [hok])
  rw [hok] at hj'
  obtain rfl : j = j' := by simp only [] at hj'; omega
  have hbd := carries_bd hcar
  clear hC hok hj' hcar
  obtain ⟨b, o, rfl, hat⟩ := hq (by omega)
  have hj0 : (0 : Int) ≤ (j : Int) := by omega
  have hj1 : (j : Int) < (qs.length : Int) := by omega
  have hn0 : (0 : Int) ≤ (n : Int) := by omega
  have hn1 : (n : Int) < (rs.length : Int) := by omega
  have d1 : decide ((n : Int) < 0) = false := by simp
  have d2 : decide (rs.length ≤ n) = false := by simp; omega
  generalize hqj : qs[j] = q at *
  have Hqj := Lib.hid hqj
  clear hqj
  obtain ⟨qa, qb, qc, qd⟩ := q
  simp only [] at hbd hr
  subst hr
  obtain ⟨bd1, bd2, bd3, _, _⟩ := hbd
  obtain ⟨bc, oc, rfl, z0, z1, z2, z3, z4, z5, z6, zok⟩ := hrs.at_ hnr
  generalize rs[n] = r at *
  obtain ⟨rid, rwd, rln, rtl, rta, rtb, fa, fc, fl⟩ := r
  simp only [] at z0 z1 z2 z3 z4 z5 z6
  go_enter Try.func18, Try.ntmps18
  go_upto_region 4 with (first | (go_at_call 16; refine (HC.out _ (hp.later ((by repeat' (first | exact Later.refl _ | assumption | refine Later.drew ?_ | refine Later.drewN ?_ _ | refine Later.alloc ?_ _ | refine Later.put ?_ (by omega) _ | refine Later.trans ?_ (by assumption))))) (hq.later ((by repeat' (first | exact Later.refl _ | assumption | refine Later.drew ?_ | refine Later.drewN ?_ _ | refine Later.alloc ?_ _ | refine Later.put ?_ (by omega) _ | refine Later.trans ?_ (by assumption)))))).mono ?_; rintro e w1 ⟨rfl, hb1⟩))
  have hl1 : Later w w1 := (by repeat' (first | exact Later.refl _ | assumption | refine Later.drew ?_ | refine Later.drewN ?_ _ | refine Later.alloc ?_ _ | refine Later.put ?_ (by omega) _ | refine Later.trans ?_ (by assumption)))
  obtain ⟨e1, e2, e3, e4⟩ := (hat.later hl1).get hj
  rw [Hqj.out] at e1 e2 e3 e4
  have r1 : w1.cell? ⟨w.heap.size, 1, none⟩ = some (.slice (some ⟨b, o, none⟩) qs.length cb) := hb1.cell (by simp [go_sem])
  have hbz : b < w1.heap.size := World.block_lt_of_cell? _ _ e1
  have hgz : w.heap.size < w1.heap.size := World.block_lt_of_cell? _ _ r1
  have a0 := hl1.cell z0
  have a1 := hl1.cell z1
  have a2 := hl1.cell z2
  have a3 := hl1.cell z3
  have a4 := hl1.cell z4
  have a5 := hl1.cell z5
  have a6 := hl1.cell z6
  have hrok := zok.later hl1
  have hcz : bc < w1.heap.size := World.block_lt_of_cell? _ _ a0
  clear z0 z1 z2 z3 z4 z5 z6 zok
  have HK := Lib.hid (fun W (hW : Later w1 W) => roll_Check (⟨rid, rwd, rln, rtl, rta, rtb, fa, fc, fl⟩ : Rl) W (hrok.later hW))
  obtain ⟨hid, hfc, hfm, hqf, hqi, hints⟩ := hrok
  unfold Rl.agg at HK
  simp only [] at HK hfc hfm hqf hqi
  clear HC
  rcases Classical.em (rollI (⟨rid, rwd, rln, rtl, rta, rtb, fa, fc, fl⟩ : Rl) = 0) with hri | hri
  · obtain ⟨_, hf20, hfb, hln, hwd⟩ := roll_ok hri
    simp only [] at hf20 hfb hln hwd
    have hfa := flawsBad_all.1 hfb
    rw [hri] at HK
    have Hv := Lib.hid (show rollHit ps ⟨(n : Int), qb, qc, qd⟩ (⟨rid, rwd, rln, rtl, rta, rtb, fa, fc, fl⟩ : Rl) = flawGo ps (qd - qb) fl by rw [rollHit, if_neg (by simpa using hri)])
    clear hri hfb
    go_wp2_with (first | (go_at_call 25; refine (HK.out _ ((by repeat' (first | exact Later.refl _ | assumption | refine Later.drew ?_ | refine Later.drewN ?_ _ | refine Later.alloc ?_ _ | refine Later.put ?_ (by omega) _ | refine Later.trans ?_ (by assumption))))).mono ?_; rintro e w2 ⟨rfl, hb2⟩; have p0 : w2.cell? ⟨w1.heap.size, 0, none⟩ = some (.int .i64 n) := hb2.cell (by simp [go_sem]); have p1 : w2.cell? ⟨w1.heap.size, 1, none⟩ = some (.int .i64 qb) := hb2.cell (by simp [go_sem]); have p3 : w2.cell? ⟨w1.heap.size, 3, none⟩ = some (.int .i64 qd) := hb2.cell (by simp [go_sem]); have b6 : w2.cell? ⟨bc, oc + n * 7 + 6, none⟩ = some (.slice fa fl.length fc) := hb2.cell (Later.cell ((Later.refl w1).alloc _) a6)))
    have hl12 : Later w1 w2 := ((Later.refl _).alloc _).trans hb2
    have hl2 : Later w w2 := hl1.trans hl12
    have hp2 := hp.later hl2
    have hq2 := hqf.later hl12
    clear a0 a1 a2 a3 a4 a5 a6 e1 e2 e3 e4 r1 HK hbz hgz hcz
    generalize w1.heap.size = gp1 at *
    go_loopw [6, 7, 56] (fun _ _ iv wr => ∃ k : Nat, k ≤ fl.length ∧ iv = .int .i64 k ∧ flawGo ps (qd - qb) fl = flawGo ps (qd - qb) (fl.drop k) ∧ Later w2 wr) (fun _ _ iv _ => fl.length - (intOf iv).toNat)
    case atStart => exact ⟨0, by omega, rfl, rfl, Later.refl _⟩
    case round =>
      obtain ⟨k, hk, rfl, he, hb⟩ := hrel
      have He := Lib.hid he
      clear he
      have g1 := hb.cell p1
      have g3 := hb.cell p3
      by_cases hlt : k < fl.length
      · obtain ⟨bb, ob, rfl, hel⟩ := (hq2.later hb) (by omega)
        obtain ⟨e1, e2, e3, e4⟩ := hel.get hlt
        have hbz : bb < wr.heap.size := World.block_lt_of_cell? _ _ e1
        have hgz : gp1 < wr.heap.size := World.block_lt_of_cell? _ _ g1
        have Hd := Lib.hid (drop_cons' fl k hlt)
        have hi := flaw_in (hfa _ (List.getElem_mem hlt))
        generalize fl[k] = q at *
        obtain ⟨xa, xb, xc, xd⟩ := q
        simp only [] at hi e1 e2 e3 e4
        obtain ⟨i1, i2, i3, i4, i5, i6⟩ := hi
        have HH := Lib.hid (fun W (hW : Pts W A ps) => overlap_Hits A c ps (xa + (qd - qb)) xb xc xd W hn hcap hW ⟨by omega, by omega⟩ ⟨by omega, by omega⟩ ⟨by omega, by omega⟩ ⟨by omega, by omega⟩)
        rcases h2 : hitsR ps (xa + (qd - qb)) xb xc xd with ⟨hb0, he0⟩
        rw [h2] at HH
        have H2 := Lib.hid h2
        clear h2
        have hpr := hp2.later hb
        rcases Classical.em (he0 = 0) with h0 | h0
        · subst h0
          rcases hb0 with _ | _
          · go_wp2_with (first | (go_at_call 27; refine (HH.out _ (hpr.later ((by repeat' (first | exact Later.refl _ | assumption | refine Later.drew ?_ | refine Later.drewN ?_ _ | refine Later.alloc ?_ _ | refine Later.put ?_ (by omega) _ | refine Later.trans ?_ (by assumption)))))).mono ?_; rintro e w5 ⟨rfl, hb5⟩))
            go_roundw
            case rel => exact ⟨k + 1, by omega, by go_num, by rw [He.out, Hd.out, flaw_miss (by rw [H2.out]) (by rw [H2.out])], (by repeat' (first | exact Later.refl _ | assumption | refine Later.drew ?_ | refine Later.drewN ?_ _ | refine Later.alloc ?_ _ | refine Later.put ?_ (by omega) _ | refine Later.trans ?_ (by assumption)))⟩
            case measure => simp [intOf]; omega
          · go_wp2_with (first | (go_at_call 27; refine (HH.out _ (hpr.later ((by repeat' (first | exact Later.refl _ | assumption | refine Later.drew ?_ | refine Later.drewN ?_ _ | refine Later.alloc ?_ _ | refine Later.put ?_ (by omega) _ | refine Later.trans ?_ (by assumption)))))).mono ?_; rintro e w5 ⟨rfl, hb5⟩))
            go_ret2
            exact ⟨by rw [Hv.out, He.out, Hd.out, flaw_hit (by rw [H2.out]) (by rw [H2.out])]; rfl, (by repeat' (first | exact Later.refl _ | assumption | refine Later.drew ?_ | refine Later.drewN ?_ _ | refine Later.alloc ?_ _ | refine Later.put ?_ (by omega) _ | refine Later.trans ?_ (by assumption)))⟩
        · have d0 : (he0 != 0) = true := by simpa using h0
          go_wp2_with (first | (go_at_call 27; refine (HH.out _ (hpr.later ((by repeat' (first | exact Later.refl _ | assumption | refine Later.drew ?_ | refine Later.drewN ?_ _ | refine Later.alloc ?_ _ | refine Later.put ?_ (by omega) _ | refine Later.trans ?_ (by assumption)))))).mono ?_; rintro e w5 ⟨rfl, hb5⟩))
          go_ret2
          exact ⟨by rw [Hv.out, He.out, Hd.out, flaw_err (by rw [H2.out]; exact h0), H2.out]; rfl, (by repeat' (first | exact Later.refl _ | assumption | refine Later.drew ?_ | refine Later.drewN ?_ _ | refine Later.alloc ?_ _ | refine Later.put ?_ (by omega) _ | refine Later.trans ?_ (by assumption)))⟩
      · go_wp2
        go_ret2
        exact ⟨by rw [Hv.out, He.out, List.drop_eq_nil_of_le (by omega)]; rfl, (by repeat' (first | exact Later.refl _ | assumption | refine Later.drew ?_ | refine Later.drewN ?_ _ | refine Later.alloc ?_ _ | refine Later.put ?_ (by omega) _ | refine Later.trans ?_ (by assumption)))⟩
  · have hre : (rollI (⟨rid, rwd, rln, rtl, rta, rtb, fa, fc, fl⟩ : Rl) != 0) = true := by simpa using hri
    have Hv := Lib.hid (show rollHit ps ⟨(n : Int), qb, qc, qd⟩ (⟨rid, rwd, rln, rtl, rta, rtb, fa, fc, fl⟩ : Rl) = (false, rollI (⟨rid, rwd, rln, rtl, rta, rtb, fa, fc, fl⟩ : Rl)) by rw [rollHit, if_pos hri])
    clear hri
    generalize rollI (⟨rid, rwd, rln, rtl, rta, rtb, fa, fc, fl⟩ : Rl) = er at *
    go_wp2_with (first | (go_at_call 25; refine (HK.out _ ((by repeat' (first | exact Later.refl _ | assumption | refine Later.drew ?_ | refine Later.drewN ?_ _ | refine Later.alloc ?_ _ | refine Later.put ?_ (by omega) _ | refine Later.trans ?_ (by assumption))))).mono ?_; rintro e w2 ⟨rfl, hb2⟩))
    go_ret2
    exact ⟨by rw [Hv.out]; rfl, (by repeat' (first | exact Later.refl _ | assumption | refine Later.drew ?_ | refine Later.drewN ?_ _ | refine Later.alloc ?_ _ | refine Later.put ?_ (by omega) _ | refine Later.trans ?_ (by assumption)))⟩
theorem damage_Hit (hn : ps.length ≤ 1099511627776) (hcap : ps.length ≤ c) (hp : Pts w A ps) (hnq : qs.length ≤ 65536) (hcq : qs.length ≤ cb) (hq : Qds w B qs) (hrs : Rolls w C rs) (hrl : rs.length ≤ 65536) :
    Calls Try.prog 18 #[.agg #[.int .i64 lot, .slice B qs.length cb], .slice C rs.length cc, .slice A ps.length c] w (Ret (.tuple #[.bool (hitR qs rs ps).1, .int .i64 (hitR qs rs ps).2]) w) := by
  unfold hitR
  by_cases he : (carrierR qs ps).2 = 0
  · rw [if_neg (by simpa using he)]
    obtain ⟨hck, j, hj1, hj, hcar⟩ := carrier_ok he
    have hok : carrierR qs ps = ((j : Int), 0) := by rw [← hj1, ← he]
    have hg : gq qs (carrierR qs ps).1.toNat = qs[j] := by rw [hj1, Int.toNat_natCast, gq]; simp [hj]
    rw [hg]
    by_cases hr : (qs[j]).a < 0 ∨ (rs.length : Int) ≤ (qs[j]).a
    · rw [if_pos hr]
      exact damage_Hit_range A B C c cb cc lot qs rs ps w j hj hn hcap hp hnq hcq hq hok hr
    · rw [if_neg hr]
      have hnr : (qs[j]).a.toNat < rs.length := by omega
      have hg2 : gr rs (qs[j]).a.toNat = rs[(qs[j]).a.toNat] := by rw [gr]; simp [hnr]
      rw [hg2]
      exact damage_Hit_in A B C c cb cc lot qs rs ps w j (qs[j]).a.toNat hj hn hcap hp hnq hcq hq hok hrs (by omega) hnr hrl
  · rw [if_pos he]
    exact damage_Hit_err A B C c cb cc lot qs rs ps w hn hcap hp hnq hcq hq he
end

end Go.Proofs.Ytolddfapanabbaa
