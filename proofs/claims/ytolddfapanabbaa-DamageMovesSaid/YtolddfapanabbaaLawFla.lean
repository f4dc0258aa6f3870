/-
  DamageFlaws, walked: a piece is damaged exactly if one of its roll's flaws, taken alone, damages it.
-/
import Derived.Test.YtolddfapanabbaaFlawP
import Derived.Test.YtolddfapanabbaaLawCar
namespace Go.Proofs.Ytolddfapanabbaa
open Go.RowKit
set_option linter.unusedSimpArgs false
set_option linter.unusedVariables false

theorem slice_sub {w : World} {b o : Nat} {fl : List Qd} (h : QdsAt w b o fl) {i : Nat} (hi : i < fl.length) : Qds w (some ⟨b, o + i * 4, none⟩) [fl[i]] := fun _ => ⟨b, o + i * 4, rfl, by
  intro k p hp
  rcases k with _ | k
  · cases hp
    obtain ⟨h1, h2, h3, h4⟩ := h.get hi
    exact ⟨h1, h2, h3, h4⟩
  · simp at hp⟩
theorem QdsAt.take {w : World} {b o : Nat} {fl : List Qd} (h : QdsAt w b o fl) (n : Nat) : QdsAt w b o (fl.take n) :=
  fun i p hp => h i p (by rw [List.getElem?_take] at hp; split at hp; exact hp; cases hp)

set_option maxHeartbeats 4000000 in
set_option maxRecDepth 100000 in
theorem law39_DamageFlaws_few (hex : ∀ W, Calls Try.prog 15 #[] W (Ret (.bool true) W)) (p : Py) (A C : Option Addr) (c cc : Nat) (rs : List Rl) (ps : List Pt) (w : World)
    (hy : PyOk w p) (hc : ps.length ≤ c) (hm : c ≤ maxLen) (hp : Pts w A ps) (hrs : Rolls w C rs) (hfew : fewB [p] rs [ps] = false ∨ (hitR p.parts rs ps).2 ≠ 0) :
    Calls Try.prog 7 #[p.agg, .slice C rs.length cc, .slice A ps.length c] w (Ret (.bool true) w) := by
  have HX := Lib.hid hex
  clear hex
  have hFew : ∀ W g1 g2, Later w W → Blk W g1 24 #[.int .i64 p.lot, .slice p.pa p.parts.length p.pc] → Blk W g2 25 #[.slice A ps.length c] →
      Calls Try.prog 14 #[.slice (some ⟨g1, 0, none⟩) 1 1, .slice C rs.length cc, .slice (some ⟨g2, 0, none⟩) 1 1] W (Ret (.bool (fewB [p] rs [ps])) W) := by
    intro W g1 g2 hW h1 h2
    exact ref39_Few (some ⟨g1, 0, none⟩) C (some ⟨g2, 0, none⟩) 1 cc 1 [p] rs [ps] W (plys_one p h1 (hy.later hW)) (hrs.later hW) (polys_one h2 hc hm (hp.later hW))
  have HF := Lib.hid hFew
  clear hFew
  rcases hfw : fewB [p] rs [ps] with _ | _
  · rw [hfw] at HF
    clear hfew hfw
    unfold Py.agg
    obtain ⟨lot, pa, pc, parts⟩ := p
    simp only [] at HF
    go_enter Try.func7, Try.ntmps7
    go_wp2_with (first | (go_at_call 14; (with_reducible refine (HF.out _ _ _ (by repeat' (with_reducible first | exact Later.refl _ | assumption | refine Later.drew ?_ | refine Later.drewN ?_ _ | refine Later.alloc ?_ _ | refine Later.put ?_ (by omega) _ | refine Later.trans ?_ (by assumption))) (by repeat' (with_reducible first | assumption | (refine Blk.newAt ?_; simp; done) | refine Blk.alloc ?_ _ | refine Blk.drew ?_ | refine Blk.drewN ?_ _ | refine Blk.later ?_ (by assumption))) (by repeat' (with_reducible first | assumption | (refine Blk.newAt ?_; simp; done) | refine Blk.alloc ?_ _ | refine Blk.drew ?_ | refine Blk.drewN ?_ _ | refine Blk.later ?_ (by assumption)))).mono ?_); rintro e w1 ⟨rfl, hb1⟩) | (go_at_call 15; refine (HX.out _).mono ?_; rintro e w2 ⟨rfl, hb2⟩))
    go_ret
    exact ⟨rfl, (by repeat' (with_reducible first | exact Later.refl _ | assumption | refine Later.drew ?_ | refine Later.drewN ?_ _ | refine Later.alloc ?_ _ | refine Later.put ?_ (by omega) _ | refine Later.trans ?_ (by assumption)))⟩
  · rw [hfw] at HF
    have hne : (hitR p.parts rs ps).2 ≠ 0 := by
      rcases hfew with h | h
      · rw [hfw] at h; cases h
      · exact h
    obtain ⟨⟨_, hr6, _⟩, h1, _, h2⟩ := few_all hfw
    have h1 := h1 p (by simp)
    have h2 := h2 ps (by simp)
    clear hfew hfw
    unfold Py.agg
    obtain ⟨lot, pa, pc, parts⟩ := p
    obtain ⟨hpc, hpm, hqd, hqi⟩ := hy
    simp only [] at HF hpc hpm hqd hqi h1 hne
    have HA := Lib.hid (fun W (hW : Pts W A ps) (hWq : Qds W pa parts) (hWr : Rolls W C rs) => damage_Hit A pa C c pc cc lot parts rs ps W (by omega) hc hW (by omega) hpc hWq hWr (by omega))
    have hno := hitR_no hne
    generalize hitR parts rs ps = R at *
    obtain ⟨ci, ce⟩ := R
    simp only [] at hno hne
    subst hno
    have d0 : (ce != 0) = true := by simpa using hne
    clear hne
    go_enter Try.func7, Try.ntmps7
    go_wp2_with (first | (go_at_call 14; (with_reducible refine (HF.out _ _ _ (by repeat' (with_reducible first | exact Later.refl _ | assumption | refine Later.drew ?_ | refine Later.drewN ?_ _ | refine Later.alloc ?_ _ | refine Later.put ?_ (by omega) _ | refine Later.trans ?_ (by assumption))) (by repeat' (with_reducible first | assumption | (refine Blk.newAt ?_; simp; done) | refine Blk.alloc ?_ _ | refine Blk.drew ?_ | refine Blk.drewN ?_ _ | refine Blk.later ?_ (by assumption))) (by repeat' (with_reducible first | assumption | (refine Blk.newAt ?_; simp; done) | refine Blk.alloc ?_ _ | refine Blk.drew ?_ | refine Blk.drewN ?_ _ | refine Blk.later ?_ (by assumption)))).mono ?_); rintro e w1 ⟨rfl, hb1⟩; have r0 : w1.cell? ⟨w.heap.size, 0, none⟩ = some (.int .i64 lot) := hb1.cell (by simp [go_sem]); have r1 : w1.cell? ⟨w.heap.size, 1, none⟩ = some (.slice pa parts.length pc) := hb1.cell (by simp [go_sem]); have hl1 : Later w w1 := (by repeat' (with_reducible first | exact Later.refl _ | assumption | refine Later.drew ?_ | refine Later.drewN ?_ _ | refine Later.alloc ?_ _ | refine Later.put ?_ (by omega) _ | refine Later.trans ?_ (by assumption)))) | (go_at_call 18; (with_reducible refine (HA.out _ (hp.later (by assumption)) (hqd.later (by assumption)) (hrs.later (by assumption))).mono ?_); rintro e w2 ⟨rfl, hb2⟩) | (go_at_call 15; refine (HX.out _).mono ?_; rintro e w4 ⟨rfl, hb4⟩))
    go_ret
    exact ⟨rfl, (by repeat' (with_reducible first | exact Later.refl _ | assumption | refine Later.drew ?_ | refine Later.drewN ?_ _ | refine Later.alloc ?_ _ | refine Later.put ?_ (by omega) _ | refine Later.trans ?_ (by assumption)))⟩

set_option maxHeartbeats 8000000 in
set_option maxRecDepth 100000 in
theorem law39_DamageFlaws_in (hex : ∀ W, Calls Try.prog 15 #[] W (Ret (.bool true) W)) (p : Py) (A C : Option Addr) (c cc : Nat) (rs : List Rl) (ps : List Pt) (w : World)
    (hy : PyOk w p) (hc : ps.length ≤ c) (hm : c ≤ maxLen) (hp : Pts w A ps) (hrs : Rolls w C rs) (hfew : fewB [p] rs [ps] = true) (hhit : (hitR p.parts rs ps).2 = 0) :
    Calls Try.prog 7 #[p.agg, .slice C rs.length cc, .slice A ps.length c] w (Ret (.bool true) w) := by
  have HX := Lib.hid hex
  clear hex
  have hFew : ∀ W g1 g2, Later w W → Blk W g1 24 #[.int .i64 p.lot, .slice p.pa p.parts.length p.pc] → Blk W g2 25 #[.slice A ps.length c] →
      Calls Try.prog 14 #[.slice (some ⟨g1, 0, none⟩) 1 1, .slice C rs.length cc, .slice (some ⟨g2, 0, none⟩) 1 1] W (Ret (.bool (fewB [p] rs [ps])) W) := by
    intro W g1 g2 hW h1 h2
    exact ref39_Few (some ⟨g1, 0, none⟩) C (some ⟨g2, 0, none⟩) 1 cc 1 [p] rs [ps] W (plys_one p h1 (hy.later hW)) (hrs.later hW) (polys_one h2 hc hm (hp.later hW))
  rw [hfew] at hFew
  have HF := Lib.hid hFew
  clear hFew
  obtain ⟨⟨_, hr6, _⟩, h1, h1r, h2⟩ := few_all hfew
  have h1 := h1 p (by simp)
  have h2 := h2 ps (by simp)
  clear hfew
  unfold Py.agg
  obtain ⟨lot, pa, pc, qs⟩ := p
  obtain ⟨hpc, hpm, hqd, hqi⟩ := hy
  simp only [] at HF hpc hpm hqd hqi h1 hhit
  obtain ⟨j, n, hj, hn, hcar, hqa, hroll, hcb, hhr⟩ := hitR_ok hhit
  rw [hhr] at hhit
  have HH := Lib.hid (fun (C' : Option Addr) (cc' : Nat) (rs' : List Rl) W (hl : rs'.length ≤ 65536) (hW : Pts W A ps) (hWq : Qds W pa qs) (hWr : Rolls W C' rs') => damage_Hit A pa C' c pc cc' lot qs rs' ps W (by omega) hc hW (by omega) hpc hWq hWr hl)
  have HA := Lib.hid (fun W (hW : Pts W A ps) (hWq : Qds W pa qs) (hWr : Rolls W C rs) => HH.out C cc rs W (by omega) hW hWq hWr)
  rw [hhr] at HA
  have HB := Lib.hid (fun W (hW : Pts W A ps) (hWq : Qds W pa qs) => damage_Carrier A pa c pc lot qs ps W (by omega) hc hW (by omega) hpc hWq)
  rw [hcar] at HB
  have hfl6 := (h1r _ (List.getElem_mem hn)).1
  have HP := Lib.hid (fun W (hW : Rolls W C rs) => law39_plain C cc rs W hW (by omega))
  have HW := Lib.hid (fun (hs : (splitR ps).2 = 0) (A' : Option Addr) (c' : Nat) (fl : List Qd) (hl : fl.length ≤ 20) (hsub : ∀ q ∈ fl, q ∈ (rs[n]).fl) => hit_with hj hn hcar hqa hroll hs A' c' hl hsub)
  have HG := Lib.hid (fun (hl : 0 < (rs[n]).fl.length) => flawGo_split hhit hl)
  have HV := Lib.hid (fun (hs : (splitR ps).2 = 0) => flawGo_ok (d := (qs[j]).d - (qs[j]).b) hs (rs[n]).fl)
  have H0 := Lib.hid hhit
  have Hmap := Lib.hid (show (rs.map bare)[n]? = some (bare rs[n]) by simp [hn])
  obtain ⟨bq, oq, rfl, hqat⟩ := hqd (by omega)
  obtain ⟨x1, x2, x3, x4⟩ := hqat.get hj
  obtain ⟨bc, oc, rfl, z0, z1, z2, z3, z4, z5, z6, zok⟩ := hrs.at_ hn
  have Hqa := Lib.hid hqa
  rw [hqa] at x1
  generalize hgd : (qs[j]).d - (qs[j]).b = d at *
  generalize rs[n] = r at *
  obtain ⟨rid, rwd, rln, rtl, rta, rtb, fa, fc, fl⟩ := r
  obtain ⟨_, hfc, hfm, hfq, hfi, _⟩ := zok
  simp only [] at z6 hfc hfm hfq hfi hfl6 HW HG HV HA H0
  clear hqa hroll hcb hhr hhit hcar z0 z1 z2 z3 z4 z5 hgd x2 x3 x4 Hqa
  generalize hgf : flawGo ps d fl = R at HA H0
  obtain ⟨all, err⟩ := R
  obtain rfl : err = 0 := H0.out
  obtain rfl : all = fl.any (hitF ps d) := by
    rcases Nat.eq_zero_or_pos fl.length with h | h
    · rw [List.eq_nil_of_length_eq_zero h] at hgf ⊢
      cases hgf
      rfl
    · have := HV.out (HG.out h)
      rw [hgf] at this
      injection this
  clear H0 hgf HV
  have hj0 : (0 : Int) ≤ (j : Int) := by omega
  have hj1 : (j : Int) < (qs.length : Int) := by omega
  have hn0 : (0 : Int) ≤ (n : Int) := by omega
  have hn1 : (n : Int) < (rs.length : Int) := by omega
  have hz1 := World.block_lt_of_cell? _ _ x1
  have hz6 := World.block_lt_of_cell? _ _ z6
  go_enter Try.func7, Try.ntmps7
  go_upto_region 3 with (first | (go_at_call 14; (with_reducible refine (HF.out _ _ _ (by repeat' (with_reducible first | exact Later.refl _ | assumption | refine Later.drew ?_ | refine Later.drewN ?_ _ | refine Later.alloc ?_ _ | refine Later.put ?_ (by omega) _ | refine Later.trans ?_ (by assumption))) (by repeat' (with_reducible first | assumption | (refine Blk.newAt ?_; simp; done) | refine Blk.alloc ?_ _ | refine Blk.drew ?_ | refine Blk.drewN ?_ _ | refine Blk.later ?_ (by assumption))) (by repeat' (with_reducible first | assumption | (refine Blk.newAt ?_; simp; done) | refine Blk.alloc ?_ _ | refine Blk.drew ?_ | refine Blk.drewN ?_ _ | refine Blk.later ?_ (by assumption)))).mono ?_); rintro e w1 ⟨rfl, hb1⟩))
  have r0 : w1.cell? ⟨w.heap.size, 0, none⟩ = some (.int .i64 lot) := hb1.cell (by simp [go_sem])
  have r1 : w1.cell? ⟨w.heap.size, 1, none⟩ = some (.slice (some ⟨bq, oq, none⟩) qs.length pc) := hb1.cell (by simp [go_sem])
  have hl1 : Later w w1 := (by repeat' (with_reducible first | exact Later.refl _ | assumption | refine Later.drew ?_ | refine Later.drewN ?_ _ | refine Later.alloc ?_ _ | refine Later.put ?_ (by omega) _ | refine Later.trans ?_ (by assumption)))
  clear HF hb1
  go_upto_region 6 with (first | (go_at_call 18; (with_reducible refine (HA.out _ (hp.later hl1) (hqd.later hl1) (hrs.later hl1)).mono ?_); rintro e w2 ⟨rfl, hb2⟩))
  have s0 := hb2.cell r0
  have s1 := hb2.cell r1
  have hl2 := hl1.trans hb2
  clear r0 r1 hb2 hl1 HA
  go_upto_region 7 with (first | (go_at_call 16; (with_reducible refine (HB.out _ (hp.later hl2) (hqd.later hl2)).mono ?_); rintro e w3 ⟨rfl, hb3⟩))
  have r0 := hb3.cell s0
  have r1 := hb3.cell s1
  have hl3 := hl2.trans hb3
  have y1 := hl3.cell x1
  have y6 := hl3.cell z6
  clear s0 s1 hb3 hl2 HB
  have hbz := World.block_lt_of_cell? _ _ y1
  have hcz := World.block_lt_of_cell? _ _ y6
  go_wp2
  go_loopw [12, 81] (fun sv iv wr => ∃ i : Nat, i ≤ fl.length ∧ iv = .int .i64 i ∧ sv = .bool ((fl.take i).any (hitF ps d)) ∧ Later w3 wr) (fun _ iv _ => fl.length - (intOf iv).toNat)
  case atStart => exact ⟨0, by omega, rfl, rfl, Later.refl _⟩
  case round =>
    obtain ⟨i, hi, rfl, rfl, hb⟩ := hrel
    by_cases hlt : i < fl.length
    · have hs := HG.out (by omega)
      obtain ⟨bf, ofs, rfl, hfat⟩ := hfq (by omega)
      have HW1 := Lib.hid (HW.out hs (some ⟨bf, ofs + i * 4, none⟩) (fc - i) [fl[i]] (by simp) (by intro q hq; rw [List.mem_singleton.1 hq]; exact List.getElem_mem hlt))
      have HW2 := Lib.hid (HW.out hs (some ⟨bf, ofs, none⟩) fc (fl.take (i + 1)) (by rw [List.length_take]; omega) (fun q hq => List.mem_of_mem_take hq))
      have hq1 := slice_sub hfat hlt
      have hq2 := hfat.take (i + 1)
      have hi1 : ∀ q ∈ [fl[i]], QdI q := by intro q hq; rw [List.mem_singleton.1 hq]; exact hfi _ (List.getElem_mem hlt)
      have hi2 : ∀ q ∈ fl.take (i + 1), QdI q := fun q hq => hfi q (List.mem_of_mem_take hq)
      have hl2 : (fl.take (i + 1)).length = i + 1 := by rw [List.length_take]; omega
      have HSx := Lib.hid (any_take_succ (p := hitF ps d) hlt)
      rw [List.any_cons, List.any_nil, Bool.or_false] at HW1
      generalize fl[i] = fx at *
      generalize hitF ps d fx = x at *
      have hlw := hl3.trans hb
      have k0 := hb.cell r0
      have k1 := hb.cell r1
      have k6 := hb.cell y6
      clear hs
      have Hq1 := Lib.hid hq1
      have Hq2 := Lib.hid hq2
      have Hl2 := Lib.hid hl2
      clear hq1 hq2 hl2
      have tok1 : True := trivial
      go_upto_region 17 with (first | (go_at_call 24; have _t := tok1; (with_reducible refine (HP.out _ (hrs.later hlw)).mono ?_); rintro e w4 ⟨v1, rfl, ho1, hb4⟩; clear tok1) | (go_at_call 24; (with_reducible refine (HP.out _ ((hrs.later hlw).later hb4)).mono ?_); rintro e w5 ⟨v2, rfl, ho2, hb5⟩))
      obtain ⟨A1, c1, rfl, hc1, hm1, hf1⟩ := OwnR.form rl_cells ho1
      obtain ⟨A2, c2, rfl, hc2, hm2, hf2⟩ := OwnR.form rl_cells ho2
      obtain ⟨g1, rfl, hg1b, hg1z, hg1f, hg1c⟩ := hf1 (by rw [List.length_map]; omega)
      obtain ⟨g2, rfl, hg2b, hg2z, hg2f, hg2c⟩ := hf2 (by rw [List.length_map]; omega)
      have q1 : w5.cell? ⟨g1, n * 7 + 6, none⟩ = some (.slice none 0 0) := hb5.cell (by have := hg1c n _ Hmap.out 6 _ rfl; rw [Nat.zero_add] at this; exact this)
      have q2 : w5.cell? ⟨g2, n * 7 + 6, none⟩ = some (.slice none 0 0) := by have := hg2c n _ Hmap.out 6 _ rfl; rw [Nat.zero_add] at this; exact this
      have f1 : w5.frozen? ⟨g1, n * 7 + 6, none⟩ = false := by rw [Below.frozen hb5 hg1z]; exact hg1f _
      have f2 := hg2f (n * 7 + 6)
      have m6 := hb5.cell (hb4.cell k6)
      have m0 := hb5.cell (hb4.cell k0)
      have m1 := hb5.cell (hb4.cell k1)
      have hlw5 := (hlw.trans hb4).trans hb5
      have hl35 : Later w3 w5 := (hb.trans hb4).trans hb5
      have hsz4 := hb4.size
      have hsz3 := hb.size
      have hg13 : w3.heap.size ≤ g1 := by omega
      have hg23 : w3.heap.size ≤ g2 := by omega
      have hszw := hlw.size
      have hg12 : g1 ≠ g2 := by omega
      have hg1w : w.heap.size ≤ g1 := by omega
      have hg2w : w.heap.size ≤ g2 := by omega
      have hg1x : g1 < w5.heap.size := World.block_lt_of_cell? _ _ q1
      have hbcw : bc ≠ g1 ∧ bc ≠ g2 := by omega
      have hbx : w.heap.size < wr.heap.size := World.block_lt_of_cell? _ _ k0
      have hwg : w.heap.size ≠ g1 ∧ w.heap.size ≠ g2 := by omega
      have hmz := World.block_lt_of_cell? _ _ m6
      have hfcl : (fl.length : Int) ≤ (fc : Int) := by omega
      have hfci : ¬ fc = i := by omega
      have hi0 : (0 : Int) ≤ (i : Int) := by omega
      have hi3 : (i : Int) + 1 ≤ (fl.length : Int) := by omega
      have hg1c5 : ∀ i a, (rs.map bare)[i]? = some a → ∀ j u, (Rl.cells a)[j]? = some u → w5.cell? ⟨g1, 0 + i * 7 + j, none⟩ = some u := fun i a ha j u hu => hb5.cell (hg1c i a ha j u hu)
      have HC1 := Lib.hid hg1c5
      have HC2 := Lib.hid hg2c
      clear hg1c5 hg2c hg1c ho1 ho2 hf1 hf2 hc1 hc2 hm1 hm2 hg1f hg2f hg1b hg2b hg1z hb4 hb5 k0 k1 k6
      simp only [List.length_map]
      go_upto_region 19 with fail
      refine name_world (fun W7 hW7 => ?_)
      have hl37 : Later w3 W7 := by rw [hW7]; exact (hl35.put hg13 _).put hg23 _
      have hl7 : Later w W7 := by rw [hW7]; exact (hlw5.put hg1w _).put hg2w _
      have p0 : W7.cell? ⟨w.heap.size, 0, none⟩ = some (.int .i64 lot) := by rw [hW7, World.cell?_setCell_far _ _ _ _ (by exact hwg.2.symm), World.cell?_setCell_far _ _ _ _ (by exact hwg.1.symm)]; exact m0
      have p1 : W7.cell? ⟨w.heap.size, 1, none⟩ = some (.slice (some ⟨bq, oq, none⟩) qs.length pc) := by rw [hW7, World.cell?_setCell_far _ _ _ _ (by exact hwg.2.symm), World.cell?_setCell_far _ _ _ _ (by exact hwg.1.symm)]; exact m1
      have R1 : Rolls W7 (some ⟨g1, 0, none⟩) (oneWith rs n (some ⟨bf, ofs + i * 4, none⟩) (fc - i) [fx]) := by
        refine rolls_with hrs hn (fun i' a ha j' u hu hne => ?_) ?_ (Hq1.out.later hl7) (by show 1 ≤ fc - i; omega) (by omega) hi1
        · have hj7 : j' < 7 := (List.getElem?_eq_some_iff.1 hu).1
          rw [hW7, World.cell?_setCell_far _ _ _ _ (by exact hg12.symm), World.cell?_setCell_other _ _ _ _ (by intro h; injection h with _ h2; omega)]
          exact HC1.out i' a ha j' u hu
        · rw [hW7, World.cell?_setCell_far _ _ _ _ (by exact hg12.symm)]
          exact World.cell?_setCell_same _ _ _ q1
      have R2 : Rolls W7 (some ⟨g2, 0, none⟩) (oneWith rs n (some ⟨bf, ofs, none⟩) fc (fl.take (i + 1))) := by
        refine rolls_with hrs hn (fun i' a ha j' u hu hne => ?_) ?_ ((show Qds w (some ⟨bf, ofs, none⟩) (fl.take (i + 1)) from fun _ => ⟨bf, ofs, rfl, Hq2.out⟩).later hl7) (by rw [Hl2.out]; omega) hfm hi2
        · have hj7 : j' < 7 := (List.getElem?_eq_some_iff.1 hu).1
          rw [hW7, World.cell?_setCell_other _ _ _ _ (by intro h; injection h with _ h2; omega), World.cell?_setCell_other _ _ _ _ (by intro h; injection h with h1 h2; omega)]
          exact HC2.out i' a ha j' u hu
        · rw [hW7, Hl2.out]
          exact World.cell?_setCell_same _ _ _ (by rw [World.cell?_setCell_far _ _ _ _ (by exact hg12)]; exact q2)
      have hA1 := HH.out (some ⟨g1, 0, none⟩) c1 _ W7 (by rw [oneWith_len]; omega) (hp.later hl7) (hqd.later hl7) R1
      have hA2 := fun W (hW : Later W7 W) => HH.out (some ⟨g2, 0, none⟩) c2 _ W (by rw [oneWith_len]; omega) (hp.later (hl7.trans hW)) (hqd.later (hl7.trans hW)) (R2.later hW)
      rw [oneWith_len, HW1.out] at hA1
      simp only [oneWith_len, HW2.out] at hA2
      rw [HSx.out] at hA2
      have HA1 := Lib.hid hA1
      have HA2 := Lib.hid hA2
      clear hA1 hA2 R1 R2 hW7 m0 m1 m6 q1 q2 f1 f2 HC1 HC2 HW1 HW2 hg12 hg1w hg2w hg1x hbcw hwg
      go_upto_region 20 with (first | (go_at_call 18; (with_reducible refine HA1.out.mono ?_); rintro e w8 ⟨rfl, hb8⟩))
      have p0 := hb8.cell p0
      have p1 := hb8.cell p1
      go_upto_region 21 with (first | (go_at_call 18; (with_reducible refine (HA2.out _ hb8).mono ?_); rintro e w9 ⟨rfl, hb9⟩))
      have hl9 : Later w3 w9 := (hl37.trans hb8).trans hb9
      generalize (fl.take i).any (hitF ps d) = S at *
      clear HA1 HA2
      cases S <;> cases x
      all_goals
        go_wp2
        go_roundw
        case rel => exact ⟨i + 1, by omega, by go_num, by rw [HSx.out]; rfl, hl9⟩
        case measure => simp [intOf]; omega
    · have hie : fl.take i = fl := List.take_of_length_le (by omega)
      rw [hie]
      generalize fl.any (hitF ps d) = X at *
      clear hie
      cases X
      all_goals
        go_wp2_with (first | (go_at_call 15; refine (HX.out _).mono ?_; rintro e w4 ⟨rfl, hb4⟩))
        go_ret
        exact ⟨rfl, hl3.trans (hb.trans hb4)⟩

theorem law39_DamageFlaws (hex : ∀ W, Calls Try.prog 15 #[] W (Ret (.bool true) W)) (p : Py) (A C : Option Addr) (c cc : Nat) (rs : List Rl) (ps : List Pt) (w : World)
    (hy : PyOk w p) (hc : ps.length ≤ c) (hm : c ≤ maxLen) (hp : Pts w A ps) (hrs : Rolls w C rs) :
    Calls Try.prog 7 #[p.agg, .slice C rs.length cc, .slice A ps.length c] w (Ret (.bool true) w) := by
  rcases hf : fewB [p] rs [ps] with _ | _
  · exact law39_DamageFlaws_few hex p A C c cc rs ps w hy hc hm hp hrs (.inl hf)
  · rcases Classical.em ((hitR p.parts rs ps).2 = 0) with h | h
    · exact law39_DamageFlaws_in hex p A C c cc rs ps w hy hc hm hp hrs hf h
    · exact law39_DamageFlaws_few hex p A C c cc rs ps w hy hc hm hp hrs (.inr h)

end Go.Proofs.Ytolddfapanabbaa
