/-
  PlaceArea, walked.
-/
import Derived.Test.YtinjdlnikhcbfaaLawTur
import Derived.Test.YtinjdlnikhcbfaaAreP
namespace Go.Proofs.Ytinjdlnikhcbfaa
open Go.RowKit
set_option linter.unusedSimpArgs false
set_option linter.unusedVariables false
attribute [local go_sem] ite_min ite_max

/-- The image of the anchor, in phase where the shape asks for it. -/
theorem apply_match {W : World} {f : Bool} {q ax ay qx qy rx ry : Int} {mt : Bool} {sn : Int} (hq : -1048576 ≤ qx ∧ qx ≤ 1048576 ∧ -1048576 ≤ qy ∧ qy ≤ 1048576) (h : mt = true → matchB rx ry ax ay ⟨sn, f, q, qx, qy⟩ = true) :
    Calls Try.prog 40 #[.agg #[.bool f, .int .i64 q], .agg #[.int .i64 ax, .int .i64 ay]] W (fun e w' => ∃ x y, e = .returned (.agg #[.int .i64 x, .int .i64 y]) ∧ Later W w' ∧ (mt = true → IntKind.i64.wrap (x + qx) = x + qx ∧ IntKind.i64.wrap (y + qy) = y + qy ∧ sameP rx ry ⟨x + qx, y + qy⟩ ⟨0, 0⟩ = true)) := by
  cases mt
  · exact (turn_Apply_any f q ax ay W).mono fun e w' ⟨x, y, h1, h2⟩ => ⟨x, y, h1, h2, (fun h => by cases h)⟩
  · have hm := h rfl
    unfold matchB at hm
    split at hm
    · cases hm
    · rename_i ho
      rw [Bool.and_eq_true] at hm
      have hn : NearP 1048576 ⟨ax, ay⟩ := by
        unfold NearP
        rw [Bool.not_eq_true] at ho
        simp only [outsideB, Bool.or_eq_false_iff, decide_eq_false_iff_not] at ho
        simp only []
        omega
      have ha := apply_near (f := f) (q := q) hn
      refine (turn_Apply f q ax ay W hn).mono fun e w' ⟨h1, h2⟩ => ⟨(applyP f q ⟨ax, ay⟩).x, (applyP f q ⟨ax, ay⟩).y, h1, h2, fun _ => ?_⟩
      unfold NearP at ha
      exact ⟨IntWalk.i64_in _ (by omega), IntWalk.i64_in _ (by omega), hm.2⟩

set_option maxHeartbeats 8000000 in
set_option maxRecDepth 100000 in
theorem law30_PlaceArea (hex : ∀ W, Calls Try.prog 34 #[] W (Ret (.bool true) W)) (c : Cs) (w : World) (hc : CsOk w c) :
    Calls Try.prog 14 #[c.agg] w (Ret (.bool true) w) := by
  have HX := Lib.hid hex
  have HV := Lib.hid (fun W h => law30_valid c W h)
  have Hcs := Lib.hid hc
  obtain ⟨hsh, hsc, hscm, hpu, hpc, hpcm, i1, i2, i3, i4⟩ := hc
  unfold Cs.agg at HV ⊢
  have Hcs2 := Lib.hid (fun W (h : Later w W) => Hcs.out.later h)
  rcases hvb : (fewCs c && pcheckR c.b c.sh c.pu == 0) with _ | _
  · rw [hvb] at HV
    clear hvb
    obtain ⟨⟨bl, bw, rx, ry⟩, sa, sc, sh, pa, pc, pu⟩ := c
    simp only [] at *
    go_enter Try.func14, Try.ntmps14
    go_wp2_with (first | (go_at_call 33; (with_reducible refine (HV.out _ (Hcs2.out _ (by repeat' (with_reducible first | exact Later.refl _ | assumption | refine Later.drew ?_ | refine Later.drewN ?_ _ | refine Later.alloc ?_ _ | refine Later.put ?_ (by omega) _ | refine Later.trans ?_ (by assumption))))).mono ?_); rintro e w6 ⟨rfl, hb6⟩) | (go_at_call 34; (with_reducible refine (HX.out _).mono ?_); rintro e w10 ⟨rfl, hb10⟩))
    go_ret
    exact ⟨rfl, (by repeat' (with_reducible first | exact Later.refl _ | assumption | refine Later.drew ?_ | refine Later.drewN ?_ _ | refine Later.alloc ?_ _ | refine Later.put ?_ (by omega) _ | refine Later.trans ?_ (by assumption)))⟩
  · rw [hvb] at HV
    rw [Bool.and_eq_true, beq_iff_eq] at hvb
    obtain ⟨hf, hv⟩ := hvb
    unfold fewCs at hf
    rw [Bool.and_eq_true] at hf
    obtain ⟨h8', h12⟩ := fewSh_all hf.1
    have hpl8 : c.pu.length ≤ 8 := by have := hf.2; simp at this; omega
    have hpair := (pcheck_pairs (by omega)).1 hv
    have hext := ext_valid hpair.1
    have hare := Lib.hid (fun h0 => pcheck_area (by omega) hv h0)
    have HE := Lib.hid (fun W (hW : Later w W) => place_Extent c.sa c.pa c.sc c.pc c.sh c.pu W (hsh.later hW) (by omega) (fun s hs => by have := h12 s hs; omega) (hpu.later hW) (by omega))
    have H12 := Lib.hid h12
    obtain ⟨⟨bl, bw, rx, ry⟩, sa, sc, sh, pa, pc, pu⟩ := c
    simp only [] at *
    rw [hext.1] at HE
    have hext2 := hext.2
    clear hext hv hf h12
    generalize (extR sh pu).1 = xe at *
    have hbed : 0 < pu.length → 1 ≤ bl ∧ bl ≤ 1048576 ∧ 1 ≤ bw ∧ bw ≤ 1048576 := fun h0 => by
      have h := (hpair.1 _ (List.getElem_mem h0)).1
      simp only [] at h
      omega
    go_enter Try.func14, Try.ntmps14
    go_upto_region 6 with (first | (go_at_call 33; (with_reducible refine (HV.out _ (Hcs2.out _ (by repeat' (with_reducible first | exact Later.refl _ | assumption | refine Later.drew ?_ | refine Later.drewN ?_ _ | refine Later.alloc ?_ _ | refine Later.put ?_ (by omega) _ | refine Later.trans ?_ (by assumption))))).mono ?_); rintro e w2 ⟨rfl, hb2⟩))
    have D2 : Blk w2 w.heap.size 83 #[.int .i64 bl, .int .i64 bw, .int .i64 rx, .int .i64 ry, .slice sa sh.length sc, .slice pa pu.length pc] := Blk.later (by repeat' (with_reducible first | assumption | (refine Blk.newAt ?_; simp; done) | refine Blk.alloc ?_ _ | refine Blk.drew ?_ | refine Blk.drewN ?_ _ | refine Blk.later ?_ (by assumption))) hb2
    have hl2 : Later w w2 := (by repeat' (with_reducible first | exact Later.refl _ | assumption | refine Later.drew ?_ | refine Later.drewN ?_ _ | refine Later.alloc ?_ _ | refine Later.put ?_ (by omega) _ | refine Later.trans ?_ (by assumption)))
    clear HV hb2
    go_loopw [3, 4, 5] (fun sv v iv wr => ∃ (k : Nat) (acc : List PV), k ≤ pu.length ∧ iv = .int .i64 k ∧ sv = .int .i64 (areaSum ((pu.take k).map fun p => (polyR sh p).1)) ∧ acc.map PV.ps = (pu.take k).map (fun p => (polyR sh p).1) ∧ OwnR wr w2.heap.size 67 1 PV.cells v acc ∧ (∀ p ∈ acc, PvOk wr p ∧ Fence v.ownBlock wr.heap.size p.A) ∧ Later w2 wr) (fun _ _ iv _ => pu.length - (intOf iv).toNat)
    case atStart => exact ⟨0, [], by omega, rfl, rfl, rfl, World.ownsRow_nil _ _ _ _, (fun p hp => by cases hp), Later.refl _⟩
    case round =>
      obtain ⟨k, acc, hk, rfl, rfl, hacc, ho, hok2, hb⟩ := hrel
      have Ho := Lib.hid ho
      have Hok2 := Lib.hid hok2
      clear ho hok2
      have hlw := hl2.trans hb
      have hal : acc.length = k := by have := congrArg List.length hacc; simp at this; omega
      have ha8 : ∀ q ∈ (pu.take k).map (fun p => (polyR sh p).1), checkI q = 0 := fun q hq => by
        obtain ⟨p, hp, rfl⟩ := List.mem_map.1 hq
        exact (sound_ok (hpair.1 p (List.mem_of_mem_take hp))).1
      have hs0 := area_pos ((pu.take k).map fun p => (polyR sh p).1)
      have hs8 := area_few _ ha8
      rw [List.length_map, List.length_take] at hs8
      have hs9 : areaSum ((pu.take k).map fun p => (polyR sh p).1) ≤ 36028797018963968 := by omega
      clear ha8 hs8
      by_cases hlt : k < pu.length
      · obtain ⟨bp, op, rfl, e0, e1, e2, e3, e4, hok⟩ := (hpu.later hlw).at_ hlt
        have hbz : bp < wr.heap.size := World.block_lt_of_cell? _ _ e0
        have hsd := hpair.1 _ (List.getElem_mem hlt)
        obtain ⟨hck, hr3, hr40⟩ := sound_ok hsd
        obtain ⟨hbd, hpz, hsf⟩ := hsd
        obtain ⟨q1, q2, q3, _⟩ := poly_zero hpz
        obtain ⟨hal2, hon, hmt⟩ := self_zero.1 hsf
        have hbx := box_on hon (by omega)
        have hab := area_bound hck
        have hls := (lo_sm (small_of_check hck)).1
        unfold SmP Sm at hls
        have hov : ∀ v ∈ acc, (overR (polyR sh pu[k]).1 v.ps = (false, 0)) ∧ v.ps.length ≤ 40 := fun v hv => by
          obtain ⟨j, hj, rfl⟩ := List.getElem_of_mem hv
          have hjk : j < k := by omega
          have e : acc[j].ps = (polyR sh (pu[j]'(by omega))).1 := by
            have : (acc.map PV.ps)[j]'(by simpa using hj) = ((pu.take k).map fun p => (polyR sh p).1)[j]'(by simp; omega) := by simp only [hacc]
            simpa using this
          have hap := List.pairwise_iff_getElem.1 hpair.2 j k (by omega) hlt hjk
          have hcj := sound_ok (hpair.1 _ (List.getElem_mem (show j < pu.length by omega)))
          rw [e]
          exact ⟨Prod.ext (over_swap hcj.1 hck hap.2) (over_err hck hcj.1), hcj.2.2⟩
        have Htk := Lib.hid (show pu.take (k + 1) = pu.take k ++ [pu[k]] from List.take_succ_eq_append_getElem hlt)
        have Hsn := Lib.hid (area_snoc ((pu.take k).map fun p => (polyR sh p).1) (polyR sh pu[k]).1)
        have Hacc := Lib.hid hacc
        clear hacc hsf hbd
        have hbe := hbed (by omega)
        have HPo := Lib.hid (fun W (hW : Later w W) => place_Poly_fresh sa sc sh pu[k] W (hsh.later hW) (by omega) (fun s hs => by have := H12.out s hs; omega) hpz)
        have hk0 : (0 : Int) ≤ (k : Int) := by omega
        have hk1 : (k : Int) < (pu.length : Int) := by omega
        have hlen8 : (acc.length : Int) ≤ 8 := by omega
        clear hal
        unfold Pu.agg at HPo
        generalize areaSum ((pu.take k).map fun p => (polyR sh p).1) = sm at *
        have Hre := Lib.hid (rfl : (polyR sh pu[k]).1 = (polyR sh pu[k]).1)
        generalize hr : (polyR sh pu[k]).1 = r at hck hr3 hr40 hbx hab hls hov Hsn HPo
        have Hr := Lib.hid hr
        have Hpk := Lib.hid (rfl : pu[k] = pu[k])
        clear Hre hr hon
        generalize hpq : pu[k] = q at *
        obtain ⟨qs, qf, qq, qx, qy⟩ := q
        simp only [] at e0 e1 e2 e3 e4 q1 q2 q3 hal2 hmt HPo
        obtain ⟨sn, rfl⟩ : ∃ n : Nat, qs = (n : Int) := ⟨qs.toNat, by omega⟩
        have hsl : sn < sh.length := by omega
        have hgs : gs sh (sn : Int).toNat = sh[sn] := by rw [Int.toNat_natCast, gs]; simp [hsl]
        rw [hgs] at hal2 hmt
        obtain ⟨bs, os, rfl, f0, f1, f2, f3, f4, _⟩ := (hsh.later hlw).at_ hsl
        have hsz : bs < wr.heap.size := World.block_lt_of_cell? _ _ f0
        generalize sh[sn] = s at *
        obtain ⟨spa, spc, sps, sgr, smt, sax, say⟩ := s
        simp only [] at f0 f1 f2 f3 f4 hal2 hmt
        have hq : -1048576 ≤ qx ∧ qx ≤ 1048576 ∧ -1048576 ≤ qy ∧ qy ≤ 1048576 := by
          simp only [outsideB, Bool.or_eq_false_iff, decide_eq_false_iff_not] at q3
          omega
        have dn1 : decide ((sn : Int) < 0) = false := by simp
        have dn2 : decide (sh.length ≤ sn) = false := by simp; omega
        have dn3 : decide ((sh.length : Int) ≤ (sn : Int)) = false := by simp; omega
        have u0 : wr.cell? ⟨w.heap.size, 0, none⟩ = some (.int .i64 bl) := (D2.later hb).cell 0
        have u1 : wr.cell? ⟨w.heap.size, 1, none⟩ = some (.int .i64 bw) := (D2.later hb).cell 1
        have u2 : wr.cell? ⟨w.heap.size, 2, none⟩ = some (.int .i64 rx) := (D2.later hb).cell 2
        have u3 : wr.cell? ⟨w.heap.size, 3, none⟩ = some (.int .i64 ry) := (D2.later hb).cell 3
        have u4 : wr.cell? ⟨w.heap.size, 4, none⟩ = some (.slice _ sh.length sc) := (D2.later hb).cell 4
        have u5 : wr.cell? ⟨w.heap.size, 5, none⟩ = some (.slice _ pu.length pc) := (D2.later hb).cell 5
        have zc := (D2.later hb).lt
        go_upto_region 11 with fail
        refine name_world (fun W6 hW6 => ?_)
        have hl6 : Later wr W6 := by rw [hW6]; exact (by repeat' (with_reducible first | exact Later.refl _ | assumption | refine Later.drew ?_ | refine Later.drewN ?_ _ | refine Later.alloc ?_ _ | refine Later.put ?_ (by omega) _ | refine Later.trans ?_ (by assumption)))
        have hgp : wr.heap.size ≤ wr.heap.size := Nat.le_refl _
        have D6 : Blk W6 wr.heap.size 90 #[.int .i64 sn, .bool qf, .int .i64 qq, .int .i64 qx, .int .i64 qy] := by rw [hW6]; exact (by repeat' (with_reducible first | assumption | (refine Blk.newAt ?_; simp; done) | refine Blk.alloc ?_ _ | refine Blk.drew ?_ | refine Blk.drewN ?_ _ | refine Blk.later ?_ (by assumption)))
        clear hW6 u0 u1 u2 u3 u4 u5 zc e0 e1 e2 e3 e4
        have hg0 : w2.heap.size ≤ wr.heap.size := hb.size
        generalize hgg : wr.heap.size = gp0 at D6 hgp ⊢
        have Hgg := Lib.hid hgg
        clear hgg hgp
        have hc6 := hb.trans hl6
        have u0 : W6.cell? ⟨w.heap.size, 0, none⟩ = some (.int .i64 bl) := (D2.later hc6).cell 0
        have u1 : W6.cell? ⟨w.heap.size, 1, none⟩ = some (.int .i64 bw) := (D2.later hc6).cell 1
        have u2 : W6.cell? ⟨w.heap.size, 2, none⟩ = some (.int .i64 rx) := (D2.later hc6).cell 2
        have u3 : W6.cell? ⟨w.heap.size, 3, none⟩ = some (.int .i64 ry) := (D2.later hc6).cell 3
        have u4 : W6.cell? ⟨w.heap.size, 4, none⟩ = some (.slice _ sh.length sc) := (D2.later hc6).cell 4
        have u5 : W6.cell? ⟨w.heap.size, 5, none⟩ = some (.slice _ pu.length pc) := (D2.later hc6).cell 5
        have zc := (D2.later hc6).lt
        have p0 : W6.cell? ⟨gp0, 0, none⟩ = some (.int .i64 sn) := (D6.later (Later.refl _)).cell 0
        have p1 : W6.cell? ⟨gp0, 1, none⟩ = some (.bool qf) := (D6.later (Later.refl _)).cell 1
        have p2 : W6.cell? ⟨gp0, 2, none⟩ = some (.int .i64 qq) := (D6.later (Later.refl _)).cell 2
        have p3 : W6.cell? ⟨gp0, 3, none⟩ = some (.int .i64 qx) := (D6.later (Later.refl _)).cell 3
        have p4 : W6.cell? ⟨gp0, 4, none⟩ = some (.int .i64 qy) := (D6.later (Later.refl _)).cell 4
        have zp := (D6.later (Later.refl _)).lt
        go_upto_region 12 with (first | (go_at_call 39; (with_reducible refine (HPo.out _ (hl2.trans (hc6.trans (by repeat' (with_reducible first | exact Later.refl _ | assumption | refine Later.drew ?_ | refine Later.drewN ?_ _ | refine Later.alloc ?_ _ | refine Later.put ?_ (by omega) _ | refine Later.trans ?_ (by assumption)))))).mono ?_); rintro e w7 ⟨g7, c7, rfl, hg7, h7a, h7b, h7c, hb7⟩))
        have hl7 : Later W6 w7 := by assumption
        have hc7 := hc6.trans hl7
        have hP7 : Pts w7 (some ⟨g7, 0, none⟩) r := fun _ => ⟨g7, 0, rfl, h7c⟩
        have HB := Lib.hid (fun W (hW : Later w7 W) => polygon_Box_ok (some ⟨g7, 0, none⟩) c7 r W (by omega) h7a (hP7.later hW) hck)
        have HA2 := Lib.hid (fun W (hW : Later w7 W) => polygon_Area2 (some ⟨g7, 0, none⟩) c7 r W (by omega) h7a (hP7.later hW) hck)
        generalize (loOf r).x = lx at *
        generalize (loOf r).y = ly at *
        generalize (hiOf r).x = hx at *
        generalize (hiOf r).y = hy at *
        generalize areaI r = ar at *
        clear u0 u1 u2 u3 u4 u5 zc p0 p1 p2 p3 p4 zp
        go_upto_region 13 with (first | (go_at_call 28; (with_reducible refine (HB.out _ (by repeat' (with_reducible first | exact Later.refl _ | assumption | refine Later.drew ?_ | refine Later.drewN ?_ _ | refine Later.alloc ?_ _ | refine Later.put ?_ (by omega) _ | refine Later.trans ?_ (by assumption)))).mono ?_); rintro e w8 ⟨rfl, hb8⟩))
        have hl8 : Later W6 w8 := hl7.trans hb8
        have hc8 := hb.trans (hl6.trans hl8)
        have u0 : w8.cell? ⟨w.heap.size, 0, none⟩ = some (.int .i64 bl) := (D2.later hc8).cell 0
        have u1 : w8.cell? ⟨w.heap.size, 1, none⟩ = some (.int .i64 bw) := (D2.later hc8).cell 1
        have u2 : w8.cell? ⟨w.heap.size, 2, none⟩ = some (.int .i64 rx) := (D2.later hc8).cell 2
        have u3 : w8.cell? ⟨w.heap.size, 3, none⟩ = some (.int .i64 ry) := (D2.later hc8).cell 3
        have u4 : w8.cell? ⟨w.heap.size, 4, none⟩ = some (.slice _ sh.length sc) := (D2.later hc8).cell 4
        have u5 : w8.cell? ⟨w.heap.size, 5, none⟩ = some (.slice _ pu.length pc) := (D2.later hc8).cell 5
        have zc := (D2.later hc8).lt
        have p0 : w8.cell? ⟨gp0, 0, none⟩ = some (.int .i64 sn) := (D6.later hl8).cell 0
        have p1 : w8.cell? ⟨gp0, 1, none⟩ = some (.bool qf) := (D6.later hl8).cell 1
        have p2 : w8.cell? ⟨gp0, 2, none⟩ = some (.int .i64 qq) := (D6.later hl8).cell 2
        have p3 : w8.cell? ⟨gp0, 3, none⟩ = some (.int .i64 qx) := (D6.later hl8).cell 3
        have p4 : w8.cell? ⟨gp0, 4, none⟩ = some (.int .i64 qy) := (D6.later hl8).cell 4
        have zp := (D6.later hl8).lt
        have dx : decide (lx < 0) = false := by simp; omega
        have dy : decide (ly < 0) = false := by simp; omega
        have vx : IntKind.i64.wrap (bl - lx) = bl - lx := IntWalk.i64_in _ (by omega)
        have vy : IntKind.i64.wrap (bw - ly) = bw - ly := IntWalk.i64_in _ (by omega)
        have dw : decide (bl - lx < hx - lx) = false := by simp; omega
        have dh : decide (bw - ly < hy - ly) = false := by simp; omega
        have s0 : w8.cell? ⟨bs, os + sn * 5, none⟩ = some (.slice spa sps.length spc) := (hl6.trans hl8).cell f0
        have s1 : w8.cell? ⟨bs, os + sn * 5 + 1, none⟩ = some (.int .i64 sgr) := (hl6.trans hl8).cell f1
        have s2 : w8.cell? ⟨bs, os + sn * 5 + 2, none⟩ = some (.bool smt) := (hl6.trans hl8).cell f2
        have s3 : w8.cell? ⟨bs, os + sn * 5 + 3, none⟩ = some (.int .i64 sax) := (hl6.trans hl8).cell f3
        have s4 : w8.cell? ⟨bs, os + sn * 5 + 4, none⟩ = some (.int .i64 say) := (hl6.trans hl8).cell f4
        have hsz8 : bs < w8.heap.size := World.block_lt_of_cell? _ _ s0
        go_upto_region 16 with fail
        refine name_world (fun W10 hW10 => ?_)
        have hl10 : Later w8 W10 := by rw [hW10]; exact (by repeat' (with_reducible first | exact Later.refl _ | assumption | refine Later.drew ?_ | refine Later.drewN ?_ _ | refine Later.alloc ?_ _ | refine Later.put ?_ (by omega) _ | refine Later.trans ?_ (by assumption)))
        have D11 : Blk W10 (w8.heap.size + 1) 92 #[.slice spa sps.length spc, .int .i64 sgr, .bool smt, .int .i64 sax, .int .i64 say] := by rw [hW10]; exact (by repeat' (with_reducible first | assumption | (refine Blk.newAt ?_; simp; done) | refine Blk.alloc ?_ _ | refine Blk.drew ?_ | refine Blk.drewN ?_ _ | refine Blk.later ?_ (by assumption)))
        clear hW10
        generalize w8.heap.size + 1 = gs1 at D11 ⊢
        have HAp := Lib.hid (fun W => apply_match (W := W) (f := qf) (q := qq) (ax := sax) (ay := say) (qx := qx) (qy := qy) (rx := rx) (ry := ry) (mt := smt) (by omega) hmt)
        have HAl := Lib.hid (fun W => turn_Allowed sgr qf qq W)
        rw [hal2] at HAl
        have HSa := Lib.hid (fun x y W => stripe_Same rx ry x y 0 0 W)
        have hc10 := hc8.trans hl10
        have hp10 := hl8.trans hl10
        clear u0 u1 u2 u3 u4 u5 zc p0 p1 p2 p3 p4 zp s0 s1 s2 s3 s4 f0 f1 f2 f3 f4
        have u0 : W10.cell? ⟨w.heap.size, 0, none⟩ = some (.int .i64 bl) := (D2.later hc10).cell 0
        have u1 : W10.cell? ⟨w.heap.size, 1, none⟩ = some (.int .i64 bw) := (D2.later hc10).cell 1
        have u2 : W10.cell? ⟨w.heap.size, 2, none⟩ = some (.int .i64 rx) := (D2.later hc10).cell 2
        have u3 : W10.cell? ⟨w.heap.size, 3, none⟩ = some (.int .i64 ry) := (D2.later hc10).cell 3
        have u4 : W10.cell? ⟨w.heap.size, 4, none⟩ = some (.slice _ sh.length sc) := (D2.later hc10).cell 4
        have u5 : W10.cell? ⟨w.heap.size, 5, none⟩ = some (.slice _ pu.length pc) := (D2.later hc10).cell 5
        have zc := (D2.later hc10).lt
        have p0 : W10.cell? ⟨gp0, 0, none⟩ = some (.int .i64 sn) := (D6.later hp10).cell 0
        have p1 : W10.cell? ⟨gp0, 1, none⟩ = some (.bool qf) := (D6.later hp10).cell 1
        have p2 : W10.cell? ⟨gp0, 2, none⟩ = some (.int .i64 qq) := (D6.later hp10).cell 2
        have p3 : W10.cell? ⟨gp0, 3, none⟩ = some (.int .i64 qx) := (D6.later hp10).cell 3
        have p4 : W10.cell? ⟨gp0, 4, none⟩ = some (.int .i64 qy) := (D6.later hp10).cell 4
        have zp := (D6.later hp10).lt
        have s0 : W10.cell? ⟨gs1, 0, none⟩ = some (.slice spa sps.length spc) := D11.cell 0
        have s1 : W10.cell? ⟨gs1, 1, none⟩ = some (.int .i64 sgr) := D11.cell 1
        have s2 : W10.cell? ⟨gs1, 2, none⟩ = some (.bool smt) := D11.cell 2
        have s3 : W10.cell? ⟨gs1, 3, none⟩ = some (.int .i64 sax) := D11.cell 3
        have s4 : W10.cell? ⟨gs1, 4, none⟩ = some (.int .i64 say) := D11.cell 4
        have zs := D11.lt
        go_upto_region 17 with (first | (go_at_call 40; (with_reducible refine (HAp.out _).mono ?_); rintro e w11 ⟨ax, ay, rfl, hb11, hm11⟩))
        refine name_world (fun W12 hW12 => ?_)
        have hl12 : Later W10 W12 := by rw [hW12]; exact (by repeat' (with_reducible first | exact Later.refl _ | assumption | refine Later.drew ?_ | refine Later.drewN ?_ _ | refine Later.alloc ?_ _ | refine Later.put ?_ (by omega) _ | refine Later.trans ?_ (by assumption)))
        have D12 : Blk W12 w11.heap.size 86 #[.int .i64 ax, .int .i64 ay] := by rw [hW12]; exact (by repeat' (with_reducible first | assumption | (refine Blk.newAt ?_; simp; done) | refine Blk.alloc ?_ _ | refine Blk.drew ?_ | refine Blk.drewN ?_ _ | refine Blk.later ?_ (by assumption)))
        clear hW12
        have hc12 := hc10.trans hl12
        have hp12 := hp10.trans hl12
        generalize w11.heap.size = gs2 at D12 ⊢
        clear u0 u1 u2 u3 u4 u5 zc p0 p1 p2 p3 p4 zp s0 s1 s2 s3 s4 zs
        have u0 : W12.cell? ⟨w.heap.size, 0, none⟩ = some (.int .i64 bl) := (D2.later hc12).cell 0
        have u1 : W12.cell? ⟨w.heap.size, 1, none⟩ = some (.int .i64 bw) := (D2.later hc12).cell 1
        have u2 : W12.cell? ⟨w.heap.size, 2, none⟩ = some (.int .i64 rx) := (D2.later hc12).cell 2
        have u3 : W12.cell? ⟨w.heap.size, 3, none⟩ = some (.int .i64 ry) := (D2.later hc12).cell 3
        have u4 : W12.cell? ⟨w.heap.size, 4, none⟩ = some (.slice _ sh.length sc) := (D2.later hc12).cell 4
        have u5 : W12.cell? ⟨w.heap.size, 5, none⟩ = some (.slice _ pu.length pc) := (D2.later hc12).cell 5
        have zc := (D2.later hc12).lt
        have p0 : W12.cell? ⟨gp0, 0, none⟩ = some (.int .i64 sn) := (D6.later hp12).cell 0
        have p1 : W12.cell? ⟨gp0, 1, none⟩ = some (.bool qf) := (D6.later hp12).cell 1
        have p2 : W12.cell? ⟨gp0, 2, none⟩ = some (.int .i64 qq) := (D6.later hp12).cell 2
        have p3 : W12.cell? ⟨gp0, 3, none⟩ = some (.int .i64 qx) := (D6.later hp12).cell 3
        have p4 : W12.cell? ⟨gp0, 4, none⟩ = some (.int .i64 qy) := (D6.later hp12).cell 4
        have zp := (D6.later hp12).lt
        have s1 : W12.cell? ⟨gs1, 1, none⟩ = some (.int .i64 sgr) := (D11.later hl12).cell 1
        have s2 : W12.cell? ⟨gs1, 2, none⟩ = some (.bool smt) := (D11.later hl12).cell 2
        have zs := (D11.later hl12).lt
        have r0 : W12.cell? ⟨gs2, 0, none⟩ = some (.int .i64 ax) := D12.cell 0
        have r1 : W12.cell? ⟨gs2, 1, none⟩ = some (.int .i64 ay) := D12.cell 1
        have zr := D12.lt
        cases smt
        · go_upto_region 19 with (first | (go_at_call 41; (with_reducible refine (HAl.out _).mono ?_); rintro e w13 ⟨rfl, hb13⟩; have s2 : w13.cell? ⟨gs1, 2, none⟩ = some (.bool false) := hb13.cell s2; have zs : gs1 < w13.heap.size := World.block_lt_of_cell? _ _ s2))
          have hl13 : Later W12 w13 := hb13
          have hl8b : Later w7 w13 := hb8.trans (hl10.trans (hl12.trans hl13))
          have vn : IntKind.i64.wrap (-ar) = -ar := IntWalk.i64_in _ (by omega)
          have vs : IntKind.i64.wrap (sm + max ar (-ar)) = sm + max ar (-ar) := IntWalk.i64_in _ (by omega)
          clear u0 u1 u2 u3 u4 u5 zc p0 p1 p2 p3 p4 zp s1 s2 zs r0 r1 zr
          go_upto_region 22 with (first | (go_at_call 43; (with_reducible refine (HA2.out _ hl8b).mono ?_); rintro e w15 ⟨rfl, hb15⟩))
          have hl15 : Later w2 w15 := hc12.trans ((hl13).trans hb15)
          have hr15 : Later wr w15 := hl6.trans (hp12.trans ((hl13).trans hb15))
          have hO15 := Ho.out.later hr15
          have hok15 : ∀ p ∈ acc, PvOk w15 p ∧ Fence (u4 : Value).ownBlock w15.heap.size p.A := fun p hp => ⟨(Hok2.out p hp).1.later hr15, (Hok2.out p hp).2.mono hr15.size⟩
          have hP15 : Pts w15 (some ⟨g7, 0, none⟩) r := hP7.later (hl8b.trans hb15)
          have hg15 : g7 < w15.heap.size := by
            obtain ⟨b', o', e', hx⟩ := hP15 (by omega)
            cases e'
            exact World.block_lt_of_cell? _ _ (hx.get (k := 0) (by omega)).1
          have hrow : ∀ g, (u4 : Value).ownBlock = some g → w2.heap.size ≤ g ∧ g < g7 := fun g hg => by
            have := World.ownsRow.lt Ho.out g hg
            have := hl6.size
            omega
          have Hrow := Lib.hid hrow
          have Hok15 := Lib.hid hok15
          obtain ⟨A4, c4, hu4, q4, q4m, hP4⟩ := hO15.polys (fun p hp => (hok15 p hp).1)
          subst hu4
          clear hok15 hrow Hok2 Ho hr15
          have HO15 := Lib.hid hO15
          clear hO15
          go_loopw [14] (fun iv wx => ∃ j : Nat, j ≤ acc.length ∧ iv = .int .i64 j ∧ Later w15 wx) (fun iv _ => acc.length - (intOf iv).toNat)
          case atStart => exact ⟨0, by omega, rfl, Later.refl _⟩
          case round =>
            obtain ⟨j, hj, rfl, hbj⟩ := hrel
            by_cases hjl : j < acc.length
            · obtain ⟨b4, o4, rfl, hx4⟩ := hP4 (by simp; omega)
              obtain ⟨v4, hv4, A5, c5, rfl, z1, z2, z3⟩ := hx4 j acc[j].ps (by simp [hjl])
              have d4 := hbj.cell hv4
              have hz4 : b4 < wr.heap.size := World.block_lt_of_cell? _ _ d4
              obtain ⟨hv1, hv2⟩ := hov _ (List.getElem_mem hjl)
              have HO := Lib.hid (fun W (hW : Later wr W) => overlap_Overlap (some ⟨g7, 0, none⟩) A5 c7 c5 r acc[j].ps W (by omega) h7a (hP15.later (hbj.trans hW)) (by omega) z1 (z3.later (hbj.trans hW)))
              rw [hv1] at HO
              have hj0 : (0 : Int) ≤ (j : Int) := by omega
              have hj1 : (j : Int) < (acc.length : Int) := by omega
              generalize acc[j].ps = pj at *
              go_wp2_with (first | (go_at_call 44; (with_reducible refine (HO.out _ (by repeat' (with_reducible first | exact Later.refl _ | assumption | refine Later.drew ?_ | refine Later.drewN ?_ _ | refine Later.alloc ?_ _ | refine Later.put ?_ (by omega) _ | refine Later.trans ?_ (by assumption)))).mono ?_); rintro e w16 ⟨rfl, hb16⟩))
              go_roundw
              case rel => exact ⟨j + 1, by omega, by go_num, hbj.trans hb16⟩
              case measure => simp [intOf]; omega
            · have HS := Lib.hid (SrcAt.blk (Blk.new wr 67 #[.slice (some ⟨g7, 0, none⟩) r.length c7]))
              have hlj : ¬ (j : Int) < (acc.length : Int) := by omega
              go_wp2_with (first
                | (at_builtin; refine wpList_append_recf slt_polys pv_len pv_one rfl (.tmp 166) (.tmp 168) rfl (base := w2.heap.size) (l := acc) rfl (OwnR.alloc (HO15.out.later hbj) _) (ad := ⟨wr.heap.size, 0, none⟩) (c := 1) [⟨some ⟨g7, 0, none⟩, c7, r⟩] rfl HS.out (by simp; omega) (by have := hl15.size; have := hbj.size; simp; omega) ?_; intro A5 c5' w5 ho5 hg5 hf5))
              have hl5 : Later w2 w5 := Later.grown ((hl15.trans hbj).alloc _) hg5 (fun g hg => (Hrow.out g hg).1)
              have hfg : Fence (Value.slice A4 acc.length c4).ownBlock (wr.alloc (.cells #[.slice (some ⟨g7, 0, none⟩) r.length c7] 67)).heap.size (some ⟨g7, 0, none⟩) := by
                intro b' o' e'
                cases e'
                refine ⟨fun q => ?_, by have := hbj.size; simp; omega⟩
                have := (Hrow.out _ q.symm).2
                omega
              have hok5 : ∀ v ∈ acc ++ [(⟨some ⟨g7, 0, none⟩, c7, r⟩ : PV)], PvOk w5 v ∧ Fence (Value.slice A5 (acc ++ [(⟨some ⟨g7, 0, none⟩, c7, r⟩ : PV)]).length c5').ownBlock w5.heap.size v.A := by
                intro v hv
                rcases List.mem_append.1 hv with hv | hv
                · obtain ⟨o1, o2⟩ := Hok15.out v hv
                  have o3 := o2.mono (m := (wr.alloc (.cells #[.slice (some ⟨g7, 0, none⟩) r.length c7] 67)).heap.size) (by have := hbj.size; simp; omega)
                  exact ⟨⟨o1.1, o1.2.1, Pts.grown ((o1.2.2.later hbj).later ((Later.refl _).alloc _)) hg5 o3⟩, o3.fresh hf5 (Nat.le_refl _) hg5.size⟩
                · rw [List.mem_singleton.1 hv]
                  exact ⟨⟨h7a, h7b, Pts.grown ((hP15.later hbj).later ((Later.refl _).alloc _)) hg5 hfg⟩, hfg.fresh hf5 (Nat.le_refl _) hg5.size⟩
              have Hok5 := Lib.hid hok5
              have Ho5 := Lib.hid ho5
              clear hok5 ho5
              simp only [List.length_append, List.length_singleton] at Ho5 Hok5
              go_roundw
              case rel =>
                refine ⟨k + 1, acc ++ [⟨some ⟨g7, 0, none⟩, c7, r⟩], by omega, by go_num, ?_, ?_, Ho5.out, Hok5.out, hl5⟩
                · rw [Htk.out, List.map_append, List.map_singleton, Hr.out, Hsn.out]
                · rw [Htk.out, List.map_append, List.map_append, Hacc.out, List.map_singleton, List.map_singleton, Hr.out]
              case measure => simp [intOf]; omega
        · have hm := hm11 rfl
          obtain ⟨wx, wy, hsm⟩ := hm
          have HSb := Lib.hid (fun W => HSa.out (ax + qx) (ay + qy) W)
          rw [hsm] at HSb
          go_upto_region 19 with (first | (go_at_call 41; (with_reducible refine (HAl.out _).mono ?_); rintro e w13 ⟨rfl, hb13⟩; have s2 : w13.cell? ⟨gs1, 2, none⟩ = some (.bool true) := hb13.cell s2; have zs : gs1 < w13.heap.size := World.block_lt_of_cell? _ _ s2; have u2 : w13.cell? ⟨w.heap.size, 2, none⟩ = some (.int .i64 rx) := hb13.cell u2; have u3 : w13.cell? ⟨w.heap.size, 3, none⟩ = some (.int .i64 ry) := hb13.cell u3; have r0 : w13.cell? ⟨gs2, 0, none⟩ = some (.int .i64 ax) := hb13.cell r0; have r1 : w13.cell? ⟨gs2, 1, none⟩ = some (.int .i64 ay) := hb13.cell r1; have p3 : w13.cell? ⟨gp0, 3, none⟩ = some (.int .i64 qx) := hb13.cell p3; have p4 : w13.cell? ⟨gp0, 4, none⟩ = some (.int .i64 qy) := hb13.cell p4; have zc : w.heap.size < w13.heap.size := World.block_lt_of_cell? _ _ u2; have zr : gs2 < w13.heap.size := World.block_lt_of_cell? _ _ r0; have zp : gp0 < w13.heap.size := World.block_lt_of_cell? _ _ p3) | (go_at_call 42; (with_reducible refine (HSb.out _).mono ?_); rintro e w14 ⟨rfl, hb14⟩))
          have hl14 : Later W12 w14 := (by repeat' (with_reducible first | exact Later.refl _ | assumption | refine Later.drew ?_ | refine Later.drewN ?_ _ | refine Later.alloc ?_ _ | refine Later.put ?_ (by omega) _ | refine Later.trans ?_ (by assumption)))
          have hl8b : Later w7 w14 := hb8.trans (hl10.trans (hl12.trans hl14))
          have vn : IntKind.i64.wrap (-ar) = -ar := IntWalk.i64_in _ (by omega)
          have vs : IntKind.i64.wrap (sm + max ar (-ar)) = sm + max ar (-ar) := IntWalk.i64_in _ (by omega)
          clear u0 u1 u2 u3 u4 u5 zc p0 p1 p2 p3 p4 zp s1 s2 zs r0 r1 zr
          go_upto_region 22 with (first | (go_at_call 43; (with_reducible refine (HA2.out _ hl8b).mono ?_); rintro e w15 ⟨rfl, hb15⟩))
          have hl15 : Later w2 w15 := hc12.trans ((hl14).trans hb15)
          have hr15 : Later wr w15 := hl6.trans (hp12.trans ((hl14).trans hb15))
          have hO15 := Ho.out.later hr15
          have hok15 : ∀ p ∈ acc, PvOk w15 p ∧ Fence (u4 : Value).ownBlock w15.heap.size p.A := fun p hp => ⟨(Hok2.out p hp).1.later hr15, (Hok2.out p hp).2.mono hr15.size⟩
          have hP15 : Pts w15 (some ⟨g7, 0, none⟩) r := hP7.later (hl8b.trans hb15)
          have hg15 : g7 < w15.heap.size := by
            obtain ⟨b', o', e', hx⟩ := hP15 (by omega)
            cases e'
            exact World.block_lt_of_cell? _ _ (hx.get (k := 0) (by omega)).1
          have hrow : ∀ g, (u4 : Value).ownBlock = some g → w2.heap.size ≤ g ∧ g < g7 := fun g hg => by
            have := World.ownsRow.lt Ho.out g hg
            have := hl6.size
            omega
          have Hrow := Lib.hid hrow
          have Hok15 := Lib.hid hok15
          obtain ⟨A4, c4, hu4, q4, q4m, hP4⟩ := hO15.polys (fun p hp => (hok15 p hp).1)
          subst hu4
          clear hok15 hrow Hok2 Ho hr15
          have HO15 := Lib.hid hO15
          clear hO15
          go_loopw [14] (fun iv wx => ∃ j : Nat, j ≤ acc.length ∧ iv = .int .i64 j ∧ Later w15 wx) (fun iv _ => acc.length - (intOf iv).toNat)
          case atStart => exact ⟨0, by omega, rfl, Later.refl _⟩
          case round =>
            obtain ⟨j, hj, rfl, hbj⟩ := hrel
            by_cases hjl : j < acc.length
            · obtain ⟨b4, o4, rfl, hx4⟩ := hP4 (by simp; omega)
              obtain ⟨v4, hv4, A5, c5, rfl, z1, z2, z3⟩ := hx4 j acc[j].ps (by simp [hjl])
              have d4 := hbj.cell hv4
              have hz4 : b4 < wr.heap.size := World.block_lt_of_cell? _ _ d4
              obtain ⟨hv1, hv2⟩ := hov _ (List.getElem_mem hjl)
              have HO := Lib.hid (fun W (hW : Later wr W) => overlap_Overlap (some ⟨g7, 0, none⟩) A5 c7 c5 r acc[j].ps W (by omega) h7a (hP15.later (hbj.trans hW)) (by omega) z1 (z3.later (hbj.trans hW)))
              rw [hv1] at HO
              have hj0 : (0 : Int) ≤ (j : Int) := by omega
              have hj1 : (j : Int) < (acc.length : Int) := by omega
              generalize acc[j].ps = pj at *
              go_wp2_with (first | (go_at_call 44; (with_reducible refine (HO.out _ (by repeat' (with_reducible first | exact Later.refl _ | assumption | refine Later.drew ?_ | refine Later.drewN ?_ _ | refine Later.alloc ?_ _ | refine Later.put ?_ (by omega) _ | refine Later.trans ?_ (by assumption)))).mono ?_); rintro e w16 ⟨rfl, hb16⟩))
              go_roundw
              case rel => exact ⟨j + 1, by omega, by go_num, hbj.trans hb16⟩
              case measure => simp [intOf]; omega
            · have HS := Lib.hid (SrcAt.blk (Blk.new wr 67 #[.slice (some ⟨g7, 0, none⟩) r.length c7]))
              have hlj : ¬ (j : Int) < (acc.length : Int) := by omega
              go_wp2_with (first
                | (at_builtin; refine wpList_append_recf slt_polys pv_len pv_one rfl (.tmp 166) (.tmp 168) rfl (base := w2.heap.size) (l := acc) rfl (OwnR.alloc (HO15.out.later hbj) _) (ad := ⟨wr.heap.size, 0, none⟩) (c := 1) [⟨some ⟨g7, 0, none⟩, c7, r⟩] rfl HS.out (by simp; omega) (by have := hl15.size; have := hbj.size; simp; omega) ?_; intro A5 c5' w5 ho5 hg5 hf5))
              have hl5 : Later w2 w5 := Later.grown ((hl15.trans hbj).alloc _) hg5 (fun g hg => (Hrow.out g hg).1)
              have hfg : Fence (Value.slice A4 acc.length c4).ownBlock (wr.alloc (.cells #[.slice (some ⟨g7, 0, none⟩) r.length c7] 67)).heap.size (some ⟨g7, 0, none⟩) := by
                intro b' o' e'
                cases e'
                refine ⟨fun q => ?_, by have := hbj.size; simp; omega⟩
                have := (Hrow.out _ q.symm).2
                omega
              have hok5 : ∀ v ∈ acc ++ [(⟨some ⟨g7, 0, none⟩, c7, r⟩ : PV)], PvOk w5 v ∧ Fence (Value.slice A5 (acc ++ [(⟨some ⟨g7, 0, none⟩, c7, r⟩ : PV)]).length c5').ownBlock w5.heap.size v.A := by
                intro v hv
                rcases List.mem_append.1 hv with hv | hv
                · obtain ⟨o1, o2⟩ := Hok15.out v hv
                  have o3 := o2.mono (m := (wr.alloc (.cells #[.slice (some ⟨g7, 0, none⟩) r.length c7] 67)).heap.size) (by have := hbj.size; simp; omega)
                  exact ⟨⟨o1.1, o1.2.1, Pts.grown ((o1.2.2.later hbj).later ((Later.refl _).alloc _)) hg5 o3⟩, o3.fresh hf5 (Nat.le_refl _) hg5.size⟩
                · rw [List.mem_singleton.1 hv]
                  exact ⟨⟨h7a, h7b, Pts.grown ((hP15.later hbj).later ((Later.refl _).alloc _)) hg5 hfg⟩, hfg.fresh hf5 (Nat.le_refl _) hg5.size⟩
              have Hok5 := Lib.hid hok5
              have Ho5 := Lib.hid ho5
              clear hok5 ho5
              simp only [List.length_append, List.length_singleton] at Ho5 Hok5
              go_roundw
              case rel =>
                refine ⟨k + 1, acc ++ [⟨some ⟨g7, 0, none⟩, c7, r⟩], by omega, by go_num, ?_, ?_, Ho5.out, Hok5.out, hl5⟩
                · rw [Htk.out, List.map_append, List.map_singleton, Hr.out, Hsn.out]
                · rw [Htk.out, List.map_append, List.map_append, Hacc.out, List.map_singleton, List.map_singleton, Hr.out]
              case measure => simp [intOf]; omega
      · have hke : k = pu.length := by omega
        subst hke
        rw [List.take_length] at hs0 hs9 ⊢
        have dle : decide (xe ≤ max bl 0) = true := by rw [decide_eq_true_iff]; exact hext2
        generalize areaSum (pu.map fun p => (polyR sh p).1) = sm at *
        have u0 : wr.cell? ⟨w.heap.size, 0, none⟩ = some (.int .i64 bl) := (D2.later hb).cell 0
        have u1 : wr.cell? ⟨w.heap.size, 1, none⟩ = some (.int .i64 bw) := (D2.later hb).cell 1
        have u2 : wr.cell? ⟨w.heap.size, 2, none⟩ = some (.int .i64 rx) := (D2.later hb).cell 2
        have u3 : wr.cell? ⟨w.heap.size, 3, none⟩ = some (.int .i64 ry) := (D2.later hb).cell 3
        have u4 : wr.cell? ⟨w.heap.size, 4, none⟩ = some (.slice _ sh.length sc) := (D2.later hb).cell 4
        have u5 : wr.cell? ⟨w.heap.size, 5, none⟩ = some (.slice _ pu.length pc) := (D2.later hb).cell 5
        have zc := (D2.later hb).lt
        by_cases h0 : 0 < pu.length
        · have hbe := hbed h0
          have dle : decide (xe ≤ bl) = true := by rw [decide_eq_true_iff]; omega
          have hsm := hare.out h0
          have m1 := mul_bd (a := bl) (b := bw) 1048576 (by omega) (by omega)
          have v1 : IntKind.i64.wrap (2 * bl) = 2 * bl := IntWalk.i64_in _ (by omega)
          have v2 : IntKind.i64.wrap (2 * bl * bw) = 2 * bl * bw := IntWalk.i64_in _ (by rw [Int.mul_assoc]; omega)
          have d1 : decide (sm ≤ 2 * bl * bw) = true := by rw [decide_eq_true_iff, Int.mul_assoc]; exact hsm
          have d0 : ((pu.length : Int) == 0) = false := by rw [beq_eq_false_iff_ne]; omega
          go_wp2_with (first | (go_at_call 45; (with_reducible refine (HE.out _ (hlw.trans (by repeat' (with_reducible first | exact Later.refl _ | assumption | refine Later.drew ?_ | refine Later.drewN ?_ _ | refine Later.alloc ?_ _ | refine Later.put ?_ (by omega) _ | refine Later.trans ?_ (by assumption))))).mono ?_); rintro e w20 ⟨rfl, hb20⟩; have u0 : w20.cell? ⟨w.heap.size, 0, none⟩ = some (.int .i64 bl) := hb20.cell u0; have u1 : w20.cell? ⟨w.heap.size, 1, none⟩ = some (.int .i64 bw) := hb20.cell u1; have u5 : w20.cell? ⟨w.heap.size, 5, none⟩ = some (.slice _ pu.length pc) := hb20.cell u5; have zc : w.heap.size < w20.heap.size := World.block_lt_of_cell? _ _ u0) | (go_at_call 34; (with_reducible refine (HX.out _).mono ?_); rintro e w10 ⟨rfl, hb10⟩))
          go_ret
          exact ⟨rfl, hlw.trans (by repeat' (with_reducible first | exact Later.refl _ | assumption | refine Later.drew ?_ | refine Later.drewN ?_ _ | refine Later.alloc ?_ _ | refine Later.put ?_ (by omega) _ | refine Later.trans ?_ (by assumption)))⟩
        · have d0 : ((pu.length : Int) == 0) = true := by rw [beq_iff_eq]; omega
          go_wp2_with (first | (go_at_call 45; (with_reducible refine (HE.out _ (hlw.trans (by repeat' (with_reducible first | exact Later.refl _ | assumption | refine Later.drew ?_ | refine Later.drewN ?_ _ | refine Later.alloc ?_ _ | refine Later.put ?_ (by omega) _ | refine Later.trans ?_ (by assumption))))).mono ?_); rintro e w20 ⟨rfl, hb20⟩; have u0 : w20.cell? ⟨w.heap.size, 0, none⟩ = some (.int .i64 bl) := hb20.cell u0; have u1 : w20.cell? ⟨w.heap.size, 1, none⟩ = some (.int .i64 bw) := hb20.cell u1; have u5 : w20.cell? ⟨w.heap.size, 5, none⟩ = some (.slice _ pu.length pc) := hb20.cell u5; have zc : w.heap.size < w20.heap.size := World.block_lt_of_cell? _ _ u0) | (go_at_call 34; (with_reducible refine (HX.out _).mono ?_); rintro e w10 ⟨rfl, hb10⟩))
          go_ret
          exact ⟨rfl, hlw.trans (by repeat' (with_reducible first | exact Later.refl _ | assumption | refine Later.drew ?_ | refine Later.drewN ?_ _ | refine Later.alloc ?_ _ | refine Later.put ?_ (by omega) _ | refine Later.trans ?_ (by assumption)))⟩

end Go.Proofs.Ytinjdlnikhcbfaa
