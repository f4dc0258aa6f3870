/-
  The walk of TopNofit.
-/
import Derived.Test.YtdhakoecjmaebaaGreatZTopC
import Derived.Test.YtdhakoecjmaebaaGreatZAreP
namespace Go.Proofs.YtdhakoecjmaebaaGreat
open Go.RowKit Go.Lib
set_option linter.unusedSimpArgs false
set_option linter.unusedVariables false
attribute [local go_sem] ite_min ite_max

set_option maxHeartbeats 8000000 in
set_option maxRecDepth 100000 in
theorem top_TopNofit (b : Bd) (C : Option Addr) (cc : Nat) (l : List Sh) (w : World) (hs : Shapes w C l) :
    Calls Tryz.prog 3 #[b.agg, .slice C l.length cc] w (Ret (.bool true) w) := by
  have HX := Lib.hid top_nests
  have HBe := Lib.hid (fun (hl : l.length ≤ 4) (hlen : ∀ s ∈ l, s.ps.length ≤ 6) W (hW : Later w W) => search_Best b C cc l W (hs.later hW) hl hlen)
  have HBo := Lib.hid (fun (hl : l.length ≤ 4) (hlen : ∀ s ∈ l, s.ps.length ≤ 6) W (hW : Later w W) => search_Bound b C cc l W (hs.later hW) (by omega) (fun s h => by have := hlen s h; omega))
  have HRn := Lib.hid (fun (hb : (boundR b l).2 = 0) (hl : l.length ≤ 4) (hlen : ∀ s ∈ l, s.ps.length ≤ 6) (O : Option Addr) (oc : Nat) (od : List Int) (W : World) (hW : Later w W) (ho : Ints W O od) (hn : od.length ≤ 4) (hd : ∀ i ∈ od, ∃ j : Nat, j < l.length ∧ i = (j : Int)) =>
    fill_Run b C O cc oc l od W (hs.later hW) (by omega) hlen ho hn hd (bound_all hb).1 (bound_all hb).2.1 (shapes_here hb).1 (shapes_here hb).2)
  have HSo := Lib.hid (fun h => search_ok (b := b) (l := l) h)
  have HSn := Lib.hid (fun h => search_no (b := b) (l := l) h)
  have HNe := Lib.hid (fun h => nested_of (b := b) (l := l) h)
  have HOg := Lib.hid (fun o (hl : l.length ≤ 5) (h : o ∈ ordersR l.length) => (by
    have e : ordersR l.length = ordersGo l.length l.length := if_neg (by omega)
    rw [e] at h
    exact (orders_go _ o h).2 : (∀ i ∈ o, ∃ j : Nat, j < l.length ∧ i = (j : Int)) ∧ o.length = l.length))
  generalize searchR b l = R at *
  obtain ⟨od, n, e0⟩ := R
  simp only [] at *
  obtain ⟨bl, bw, brx, bry⟩ := b
  unfold Bd.agg at *
  simp only [] at HBe HBo HRn ⊢
  go_enter Tryz.func3, Tryz.ntmps3
  go_upto_region 1 with fail
  refine name_world (fun W1 hW1 => ?_)
  have hl1 : Later w W1 := by rw [hW1]; exact (by repeat' (with_reducible first | exact Later.refl _ | assumption | refine Later.drew ?_ | refine Later.drewN ?_ _ | refine Later.alloc ?_ _ | refine Later.put ?_ (by omega) _ | refine Later.trans ?_ (by assumption)))
  have B1 : Blk W1 w.heap.size 25 #[.int .i64 bl, .int .i64 bw, .int .i64 brx, .int .i64 bry] := by rw [hW1]; exact (by repeat' (with_reducible first | assumption | (refine Blk.newAt ?_; simp; done) | refine Blk.alloc ?_ _ | refine Blk.drew ?_ | refine Blk.drewN ?_ _ | refine Blk.later ?_ (by assumption)))
  clear hW1
  obtain ⟨g, hg⟩ : ∃ g, g = w.heap.size := ⟨_, rfl⟩
  rw [← hg] at B1
  rw [← hg]
  clear hg
  by_cases hl4 : l.length ≤ 4
  · have d4 : decide ((l.length : Int) > 4) = false := by simp; omega
    go_upto_region 4 with fail
    go_loopw [5] (fun iv wr => ∃ k : Nat, k ≤ l.length ∧ iv = .int .i64 k ∧ Hid (∀ s ∈ l.take k, s.ps.length ≤ 6) ∧ Later W1 wr) (fun iv _ => l.length - (intOf iv).toNat)
    case atStart => exact ⟨0, by omega, rfl, Lib.hid (by simp), Later.refl _⟩
    case round =>
      obtain ⟨k, hk, rfl, HL6, hbr⟩ := hrel
      have hlr := hl1.trans hbr
      by_cases hlt : k < l.length
      · obtain ⟨bs, os, rfl, x0, _, _, _, _, _⟩ := (hs.later hlr).at_ hlt
        have zbs := World.block_lt_of_cell? _ _ x0
        have Htk := Lib.hid (show l.take (k + 1) = l.take k ++ [l[k]] from List.take_succ_eq_append_getElem hlt)
        generalize l[k] = s at *
        have hk0 : (0 : Int) ≤ (k : Int) := by omega
        have hk1 : (k : Int) < (l.length : Int) := by omega
        by_cases h6 : s.ps.length ≤ 6
        · have d6 : decide ((s.ps.length : Int) > 6) = false := by simp; omega
          go_wp2
          refine ⟨⟨k + 1, by omega, by go_num, Lib.hid (fun x hx => ?_), hbr⟩, ?_⟩
          · rw [Htk.out] at hx
            rcases List.mem_append.1 hx with hx | hx
            · exact HL6.out x hx
            · rw [List.mem_singleton.1 hx]; exact h6
          · simp [intOf]
            omega
        · have d6 : decide ((s.ps.length : Int) > 6) = true := by simp; omega
          go_wp2_with (go_at_call 5; (with_reducible refine (HX.out _).mono ?_); rintro e w2 ⟨rfl, hb2⟩)
          go_ret
          exact ⟨rfl, hlr.trans hb2⟩
      · have hke : k = l.length := by omega
        have hlen : ∀ s ∈ l, s.ps.length ≤ 6 := by
          have := HL6.out
          rw [hke, List.take_length] at this
          exact this
        have HBe2 := Lib.hid (HBe.out hl4 hlen)
        have HBo2 := Lib.hid (HBo.out hl4 hlen)
        have HRn2 := Lib.hid (fun hb => HRn.out hb hl4 hlen)
        have Hlen := Lib.hid hlen
        subst hke
        clear HL6 HBe HBo HRn hlen
        unfold BestPost at HBe2
        simp only [] at HBe2
        have B2 := B1.later hbr
        have b0 : wr.cell? ⟨g, 0, none⟩ = some (.int .i64 bl) := B2.cell 0
        have b1 : wr.cell? ⟨g, 1, none⟩ = some (.int .i64 bw) := B2.cell 1
        have b2 : wr.cell? ⟨g, 2, none⟩ = some (.int .i64 brx) := B2.cell 2
        have b3 : wr.cell? ⟨g, 3, none⟩ = some (.int .i64 bry) := B2.cell 3
        have zb4 := B2.lt
        by_cases he0 : e0 = 0
        · obtain ⟨s1, s2, s3, s4⟩ := HSo.out he0
          have HN := Lib.hid (HNe.out he0)
          have hnb := HN.out.bound
          subst he0
          obtain ⟨hd1, hd2⟩ := HOg.out _ (by omega) s2
          have hbeds := (bound_all s1).1
          simp only [] at hbeds
          have HRk := Lib.hid (fun (O : Option Addr) (oc : Nat) W (hW : Later w W) (ho : Ints W O od) => HRn2.out s1 O oc od W hW ho (by omega) hd1)
          clear hd1 hd2 HSo HSn HNe HOg HRn2 s2 s4
          generalize boundR ⟨bl, bw, brx, bry⟩ l = br at *
          generalize runR ⟨bl, bw, brx, bry⟩ l od = rr at *
          obtain ⟨bn, be⟩ := br
          obtain ⟨puts, e1⟩ := rr
          unfold RunPost at HRk
          simp only [] at s1 s3 HBo2 HRk HN hnb
          subst s1 s3
          go_upto_region 9 with (go_at_call 6; (with_reducible refine (HBe2.out _ hlr).mono ?_); rintro e w3 ⟨A3, c3, rfl, _, hi3, hb3⟩)
          have hl3 := hlr.trans hb3
          have B3 := B2.later hb3
          have HR3 := Lib.hid (fun W (hW : Later w3 W) => HRk.out A3 c3 W (hl3.trans hW) (hi3.later hW))
          clear b0 b1 b2 b3 zb4 hi3
          have b0 : w3.cell? ⟨g, 0, none⟩ = some (.int .i64 bl) := B3.cell 0
          have b1 : w3.cell? ⟨g, 1, none⟩ = some (.int .i64 bw) := B3.cell 1
          have b2 : w3.cell? ⟨g, 2, none⟩ = some (.int .i64 brx) := B3.cell 2
          have b3 : w3.cell? ⟨g, 3, none⟩ = some (.int .i64 bry) := B3.cell 3
          have zb4 := B3.lt
          go_upto_region 12 with (go_at_call 7; (with_reducible refine (HR3.out _ (by exact (by repeat' (with_reducible first | exact Later.refl _ | assumption | refine Later.drew ?_ | refine Later.drewN ?_ _ | refine Later.alloc ?_ _ | refine Later.put ?_ (by omega) _ | refine Later.trans ?_ (by assumption))))).mono ?_); rintro e w4 ⟨A4, c4, rfl, _, _, hp4, hb4⟩)
          have hl4' := hl3.trans hb4
          have B4 := B3.later hb4
          clear b0 b1 b2 b3 zb4
          have b0 : w4.cell? ⟨g, 0, none⟩ = some (.int .i64 bl) := B4.cell 0
          have b1 : w4.cell? ⟨g, 1, none⟩ = some (.int .i64 bw) := B4.cell 1
          have b2 : w4.cell? ⟨g, 2, none⟩ = some (.int .i64 brx) := B4.cell 2
          have b3 : w4.cell? ⟨g, 3, none⟩ = some (.int .i64 bry) := B4.cell 3
          have zb4 := B4.lt
          have dn : ((puts.length : Int) != (l.length : Int)) = false := by
            have := HN.out.len
            simp
            omega
          have db : decide (bn > n) = false := by
            simp
            omega
          go_upto_region 13 with (go_at_call 8; (with_reducible refine (HBo2.out _ hl4').mono ?_); rintro e w5 ⟨rfl, hb5⟩)
          have hl5 := hl4'.trans hb5
          have hp5 := hp4.later hb5
          have HB5 := Lib.hid (B4.later hb5)
          clear b0 b1 b2 b3 zb4 B2 B3 B4 hp4 HBe2 HBo2 HRk HR3
          go_upto_region 17 with fail
          clear d4 dn db hnb
          have Hl := Lib.hid (And.intro hl4 hl5)
          have Hp5 := Lib.hid hp5
          have hpn4 : puts.length ≤ 4 := by have := HN.out.len; omega
          have HAr := Lib.hid (fun k (hk : k ≤ puts.length) => (by
            have h1 := area_pos ((puts.take k).map fun p => (polyR l p).1)
            have h2 := area_few ((puts.take k).map fun p => (polyR l p).1) (fun q hq => by
              obtain ⟨p, hp, rfl⟩ := List.mem_map.1 hq
              exact (sound_ok (HN.out.sound p (List.mem_of_mem_take hp)).1).1)
            rw [List.length_map, List.length_take] at h2
            omega : 0 ≤ areaSum ((puts.take k).map fun p => (polyR l p).1) ∧ areaSum ((puts.take k).map fun p => (polyR l p).1) ≤ 18014398509481984))
          clear hp5 hl5 hl3 hl4' hl1 hlr hbr hb3 hb4 hb5 B1
          go_loopw [13, 14] (fun av iv wr => ∃ (k : Nat) (a : Int), k ≤ puts.length ∧ av = .int .i64 a ∧ iv = .int .i64 k ∧ Hid (a = areaSum ((puts.take k).map fun p => (polyR l p).1)) ∧ Later w5 wr) (fun _ iv _ => puts.length - (intOf iv).toNat)
          case atStart => exact ⟨0, 0, by omega, rfl, rfl, Lib.hid rfl, Later.refl _⟩
          case round =>
            rename_i hk0 hke0
            obtain ⟨k, a, hk, rfl, rfl, Ha, hbr⟩ := hrel
            have hlr := Hl.out.2.trans hbr
            have haB := HAr.out k hk
            rw [← Ha.out] at haB
            have B5 := HB5.out.later hbr
            by_cases hlt : k < puts.length
            · obtain ⟨bp, op, rfl, x0, x1, x2, x3, x4, hok⟩ := (Hp5.out.later hbr).at_ hlt
              have zbp := World.block_lt_of_cell? _ _ x0
              have hpm := List.getElem_mem hlt
              obtain ⟨hso, _, hfl, hqq⟩ := HN.out.sound _ hpm
              obtain ⟨bx1, bx2, bx3, bx4⟩ := HN.out.box _ hpm
              have Htk := Lib.hid (show (puts.take (k + 1)).map (fun p => (polyR l p).1) = (puts.take k).map (fun p => (polyR l p).1) ++ [(polyR l puts[k]).1] by rw [List.take_succ_eq_append_getElem hlt, List.map_append]; rfl)
              have HArn := HAr.out (k + 1) (by omega)
              rw [Htk.out, area_snoc, ← Ha.out] at HArn
              obtain ⟨sk1, sk2, sk3⟩ := sound_ok hso
              obtain ⟨sp1, sp2, sp3, sp4, sp5, sp6⟩ := poly_zero hso.2.1
              clear sp5 sp6
              have HPo := Lib.hid (fun W (hW : Later w W) => place_Poly_yes C cc l puts[k] W (hs.later hW) (by omega) (fun s h => by have := Hlen.out s h; omega) hso.2.1)
              have HTr := Lib.hid hso
              obtain ⟨al, on_, mt⟩ := self_zero.1 hso.2.2
              have bx : -1048576 ≤ puts[k].x ∧ puts[k].x ≤ 1048576 ∧ -1048576 ≤ puts[k].y ∧ puts[k].y ≤ 1048576 := by
                have := outside_near sp3
                unfold NearP at this
                exact this
              have hn1 : n ≤ 1048576 := by
                have hnl : n ≤ max bl 0 := HN.out.nl
                omega
              have hbw1 : 1 ≤ bw ∧ bw ≤ 1048576 := HN.out.bd
              obtain ⟨sn, hsn⟩ : ∃ sn : Nat, puts[k].sh = (sn : Int) := ⟨puts[k].sh.toNat, by omega⟩
              have hsnl : sn < l.length := by omega
              have hgs : gs l puts[k].sh.toNat = l[sn] := by rw [hsn]; simp [gs, hsnl]
              rw [hgs] at al mt sp4
              have HPv := Lib.hid (fun i (hik : i < k) (hi : i < puts.length) A B ca cb W ha hb pa pb => pair_over HN.out hik hi hlt (A := A) (B := B) (ca := ca) (cb := cb) (W := W) ha hb pa pb)
              have HPb := Lib.hid (fun i (hik : i < k) (hi : i < puts.length) A B ca cb W ha hb pa pb => pair_block HN.out hik hi hlt (A := A) (B := B) (ca := ca) (cb := cb) (W := W) ha hb pa pb)
              have HT2 := Lib.hid (fun W (hW : Later w W) => shape_turn hs hsnl (by have := (sound_turned hso).1; rwa [hgs] at this) puts[k].fl puts[k].q W hW)
              rw [hgs] at HPb
              generalize (polyR l puts[k]).1 = r at *
              generalize hpk : puts[k] = p at *
              obtain ⟨psh, pf, pq, px, py⟩ := p
              simp only [] at hsn hfl x0 x1 x2 x3 x4 hqq bx al mt sp1 sp2
              subst hsn hfl
              have HBx := Lib.hid (fun A6 c6 W (hc : r.length ≤ c6) (hp : Pts W A6 r) => polygon_Box_ok A6 c6 r W (by omega) hc hp sk1)
              have HA2 := Lib.hid (fun A6 c6 W (hc : r.length ≤ c6) (hp : Pts W A6 r) => polygon_Area2 A6 c6 r W (by omega) hc hp sk1)
              have Hsk := Lib.hid (And.intro sk1 (And.intro sk2 sk3))
              have Hal := Lib.hid al
              have Hmt := Lib.hid mt
              have Hpm := Lib.hid hpm
              have Hpk := Lib.hid hpk
              have Hso := Lib.hid hso
              have Hsp4 := Lib.hid sp4
              have Hhn := Lib.hid (And.intro hn1 hbw1)
              unfold Pu.agg PolyOk at HPo
              simp only [] at HPo
              have hr40 : r.length ≤ 40 := sk3
              have hlo := loOf_near sk1
              have hhi := hiOf_near sk1
              unfold NearP at hlo hhi
              clear al mt hpm hpk hso sp4 on_ sk1 sk2 sk3 hok hgs hqq HTr sp3
              generalize (loOf r).x = lx at *
              generalize (loOf r).y = ly at *
              generalize (hiOf r).x = hx at *
              generalize (hiOf r).y = hy at *
              generalize har : areaI r = ar at *
              have Har := Lib.hid har
              clear har
              have k0 : (0 : Int) ≤ (k : Int) := by omega
              have k1 : (k : Int) < (puts.length : Int) := by omega
              have sn0 : decide ((sn : Int) < 0) = false := by simp
              have sn1 : decide ((sn : Int) ≥ (l.length : Int)) = false := by simp; omega
              go_upto_region 20 with fail
              refine name_world (fun W6 hW6 => ?_)
              have hl6 : Later wr W6 := by rw [hW6]; exact (by repeat' (with_reducible first | exact Later.refl _ | assumption | refine Later.drew ?_ | refine Later.drewN ?_ _ | refine Later.alloc ?_ _ | refine Later.put ?_ (by omega) _ | refine Later.trans ?_ (by assumption)))
              have D6 : Blk W6 wr.heap.size 44 #[.int .i64 sn, .bool false, .int .i64 pq, .int .i64 px, .int .i64 py] := by rw [hW6]; exact (by repeat' (with_reducible first | assumption | (refine Blk.newAt ?_; simp; done) | refine Blk.alloc ?_ _ | refine Blk.drew ?_ | refine Blk.drewN ?_ _ | refine Blk.later ?_ (by assumption)))
              clear hW6 x0 x1 x2 x3 x4 zbp
              obtain ⟨g6, hg6⟩ : ∃ g, g = wr.heap.size := ⟨_, rfl⟩
              rw [← hg6] at D6
              rw [← hg6]
              clear hg6
              have p0 : W6.cell? ⟨g6, 0, none⟩ = some (.int .i64 sn) := D6.cell 0
              have p1 : W6.cell? ⟨g6, 1, none⟩ = some (.bool false) := D6.cell 1
              have p2 : W6.cell? ⟨g6, 2, none⟩ = some (.int .i64 pq) := D6.cell 2
              have p3 : W6.cell? ⟨g6, 3, none⟩ = some (.int .i64 px) := D6.cell 3
              have p4 : W6.cell? ⟨g6, 4, none⟩ = some (.int .i64 py) := D6.cell 4
              have zp := D6.lt
              go_upto_region 23 with (go_at_call 9; (with_reducible refine (HPo.out _ (hlr.trans hl6)).mono ?_); rintro e w7 ⟨A7, c7, rfl, hc7, _, hp7, hb7⟩)
              have HB7 := Lib.hid (HBx.out A7 c7 w7 hc7 hp7)
              have Hp7 := Lib.hid (And.intro hc7 hp7)
              clear hc7 hp7 p0 p1 p2 p3 p4 zp
              go_upto_region 24 with (go_at_call 10; (with_reducible refine HB7.out.mono ?_); rintro e w8 ⟨rfl, hb8⟩)
              refine name_world (fun W9 hW9 => ?_)
              have hl9 : Later w8 W9 := by rw [hW9]; exact (by repeat' (with_reducible first | exact Later.refl _ | assumption | refine Later.drew ?_ | refine Later.drewN ?_ _ | refine Later.alloc ?_ _ | refine Later.put ?_ (by omega) _ | refine Later.trans ?_ (by assumption)))
              have D9 : Blk W9 w8.heap.size 48 #[.int .i64 lx, .int .i64 ly, .int .i64 (hx - lx), .int .i64 (hy - ly)] := by rw [hW9]; exact (by repeat' (with_reducible first | assumption | (refine Blk.newAt ?_; simp; done) | refine Blk.alloc ?_ _ | refine Blk.drew ?_ | refine Blk.drewN ?_ _ | refine Blk.later ?_ (by assumption)))
              clear hW9
              have hb89 : Later wr W9 := ((hl6.trans hb7).trans hb8).trans hl9
              have F6 := ((D6.later hb7).later hb8).later hl9
              have FB := B5.later hb89
              obtain ⟨g9, hg9⟩ : ∃ g, g = w8.heap.size := ⟨_, rfl⟩
              rw [← hg9] at D9
              rw [← hg9]
              clear hg9
              obtain ⟨bs, os, rfl, f0, f1, f2, f3, f4, _⟩ := (hs.later (hlr.trans hb89)).at_ hsnl
              have hbs := World.block_lt_of_cell? _ _ f0
              have HAl := Lib.hid (fun W => turn_Allowed l[sn].gr false pq W)
              rw [Hal.out] at HAl
              generalize hsh : l[sn] = s at *
              have e1 : decide (lx < 0) = false := by simp; omega
              have e2 : decide (ly < 0) = false := by simp; omega
              have vx : IntKind.i64.wrap (lx + (hx - lx)) = hx := by rw [show lx + (hx - lx) = hx by omega]; exact IntWalk.i64_in _ (by omega)
              have vy : IntKind.i64.wrap (ly + (hy - ly)) = hy := by rw [show ly + (hy - ly) = hy by omega]; exact IntWalk.i64_in _ (by omega)
              have e3 : decide (hx > n) = false := by simp; omega
              have bx4' : hy ≤ bw := bx4
              have e4 : decide (hy > bw) = false := by simp; omega
              have hS : ∀ w' : World, Later W9 w' → (w'.cell? ⟨g9, 0, none⟩ = some (.int .i64 lx) ∧ w'.cell? ⟨g9, 1, none⟩ = some (.int .i64 ly) ∧ w'.cell? ⟨g9, 2, none⟩ = some (.int .i64 (hx - lx)) ∧ w'.cell? ⟨g9, 3, none⟩ = some (.int .i64 (hy - ly)) ∧ w'.cell? ⟨g, 1, none⟩ = some (.int .i64 bw) ∧ w'.cell? ⟨g6, 0, none⟩ = some (.int .i64 sn) ∧ w'.cell? ⟨g6, 1, none⟩ = some (.bool false) ∧ w'.cell? ⟨g6, 2, none⟩ = some (.int .i64 pq) ∧ w'.cell? ⟨bs, os + sn * 5 + 1, none⟩ = some (.int .i64 s.gr) ∧ g9 < w'.heap.size ∧ g < w'.heap.size ∧ g6 < w'.heap.size ∧ bs < w'.heap.size) := fun w' h => ⟨(D9.later h).cell 0, (D9.later h).cell 1, (D9.later h).cell 2, (D9.later h).cell 3, (FB.later h).cell 1, (F6.later h).cell 0, (F6.later h).cell 1, (F6.later h).cell 2, h.cell f1, (D9.later h).lt, (FB.later h).lt, (F6.later h).lt, Nat.lt_of_lt_of_le hbs h.size⟩
              have hk0' : (0 : Int) ≤ (sn : Int) := by omega
              have hk1' : (sn : Int) < (l.length : Int) := by omega
              as_aux_lemma =>
              refine wp_region_held_drew (S := fun w' : World => w'.cell? ⟨g9, 0, none⟩ = some (.int .i64 lx) ∧ w'.cell? ⟨g9, 1, none⟩ = some (.int .i64 ly) ∧ w'.cell? ⟨g9, 2, none⟩ = some (.int .i64 (hx - lx)) ∧ w'.cell? ⟨g9, 3, none⟩ = some (.int .i64 (hy - ly)) ∧ w'.cell? ⟨g, 1, none⟩ = some (.int .i64 bw) ∧ w'.cell? ⟨g6, 0, none⟩ = some (.int .i64 sn) ∧ w'.cell? ⟨g6, 1, none⟩ = some (.bool false) ∧ w'.cell? ⟨g6, 2, none⟩ = some (.int .i64 pq) ∧ w'.cell? ⟨bs, os + sn * 5 + 1, none⟩ = some (.int .i64 s.gr) ∧ g9 < w'.heap.size ∧ g < w'.heap.size ∧ g6 < w'.heap.size ∧ bs < w'.heap.size) (by kernel_rfl) (hS _ (Later.refl _).drew) (fun hHeld => ?_)
              refine take_at (i := 0) (d := 127) (v := ?_) rfl rfl (by kernel_rfl) (by kernel_rfl) (by kernel_rfl) (fun _ _ _ h => h) (by rfl) ?_ (by assumption) ?_
              rotate_left
              · (intro w hSw; (try dsimp only at hSw); go_simp; (try with_reducible rfl))
              simp only [Act.put, List.setIfInBounds_toArray, List.set_cons_zero, List.set_cons_succ]
              refine take_at (i := 1) (d := 128) (v := ?_) rfl rfl (by kernel_rfl) (by kernel_rfl) (by kernel_rfl) (fun _ _ _ h => h) (by rfl) ?_ (by assumption) ?_
              rotate_left
              · (intro w hSw; (try dsimp only at hSw); go_simp; (try with_reducible rfl))
              simp only [Act.put, List.setIfInBounds_toArray, List.set_cons_zero, List.set_cons_succ]
              refine take_at (i := 2) (d := 129) (v := ?_) rfl rfl (by kernel_rfl) (by kernel_rfl) (by kernel_rfl) (fun _ _ _ h => h) (by rfl) ?_ (by assumption) ?_
              rotate_left
              · (intro w hSw; (try dsimp only at hSw); go_simp; (try with_reducible rfl))
              simp only [Act.put, List.setIfInBounds_toArray, List.set_cons_zero, List.set_cons_succ]
              refine take_at (i := 3) (d := 130) (v := ?_) rfl rfl (by kernel_rfl) (by kernel_rfl) (by kernel_rfl) (fun _ _ _ h => h) (by rfl) ?_ (by assumption) ?_
              rotate_left
              · (intro w hSw; (try dsimp only at hSw); go_simp; (try with_reducible rfl))
              simp only [Act.put, List.setIfInBounds_toArray, List.set_cons_zero, List.set_cons_succ]
              refine take_at (i := 4) (d := 131) (v := ?_) rfl rfl (by kernel_rfl) (by kernel_rfl) (by kernel_rfl) (fun _ _ _ h => h) (by rfl) ?_ (by assumption) ?_
              rotate_left
              · (intro w hSw; (try dsimp only at hSw); go_simp; (try with_reducible rfl))
              simp only [Act.put, List.setIfInBounds_toArray, List.set_cons_zero, List.set_cons_succ]
              refine take_at (i := 5) (d := 132) (v := ?_) rfl rfl (by kernel_rfl) (by kernel_rfl) (by kernel_rfl) (fun _ _ _ h => h) (by rfl) ?_ (by assumption) ?_
              rotate_left
              · (intro w hSw; (try dsimp only at hSw); go_simp; (try with_reducible rfl))
              simp only [Act.put, List.setIfInBounds_toArray, List.set_cons_zero, List.set_cons_succ]
              refine take_at (i := 6) (d := 133) (v := ?_) rfl rfl (by kernel_rfl) (by kernel_rfl) (by kernel_rfl) (fun _ _ _ h => h) (by rfl) ?_ (by assumption) ?_
              rotate_left
              · (intro w hSw; (try dsimp only at hSw); go_simp; (try with_reducible rfl))
              simp only [Act.put, List.setIfInBounds_toArray, List.set_cons_zero, List.set_cons_succ]
              refine take_at (i := 7) (d := 134) (v := ?_) rfl rfl (by kernel_rfl) (by kernel_rfl) (by kernel_rfl) (fun _ _ _ h => h) (by rfl) ?_ (by assumption) ?_
              rotate_left
              · (intro w hSw; (try dsimp only at hSw); go_simp; (try with_reducible rfl))
              simp only [Act.put, List.setIfInBounds_toArray, List.set_cons_zero, List.set_cons_succ]
              refine take_at (i := 8) (d := 135) (v := ?_) rfl rfl (by kernel_rfl) (by kernel_rfl) (by kernel_rfl) (fun _ _ _ h => h) (by rfl) ?_ (by assumption) ?_
              rotate_left
              · (intro w hSw; (try dsimp only at hSw); go_simp; (try with_reducible rfl))
              simp only [Act.put, List.setIfInBounds_toArray, List.set_cons_zero, List.set_cons_succ]
              refine take_at (i := 9) (d := 136) (v := ?_) rfl rfl (by kernel_rfl) (by kernel_rfl) (by kernel_rfl) (fun _ _ _ h => h) (by rfl) ?_ (by assumption) ?_
              rotate_left
              · (intro w hSw; (try dsimp only at hSw); go_simp; (try with_reducible rfl))
              simp only [Act.put, List.setIfInBounds_toArray, List.set_cons_zero, List.set_cons_succ]
              refine take_at (i := 10) (d := 137) (v := ?_) rfl rfl (by kernel_rfl) (by kernel_rfl) (by kernel_rfl) (fun _ _ _ h => h) (by rfl) ?_ (by assumption) ?_
              rotate_left
              · (intro w hSw; (try dsimp only at hSw); go_simp; (try with_reducible rfl))
              simp only [Act.put, List.setIfInBounds_toArray, List.set_cons_zero, List.set_cons_succ]
              refine take_at (i := 11) (d := 138) (v := ?_) rfl rfl (by kernel_rfl) (by kernel_rfl) (by kernel_rfl) (fun _ _ _ h => h) (by rfl) ?_ (by assumption) ?_
              rotate_left
              · (intro w hSw; (try dsimp only at hSw); go_simp; (try with_reducible rfl))
              simp only [Act.put, List.setIfInBounds_toArray, List.set_cons_zero, List.set_cons_succ]
              refine take_at (i := 12) (d := 139) (v := ?_) rfl rfl (by kernel_rfl) (by kernel_rfl) (by kernel_rfl) (fun _ _ _ h => h) (by rfl) ?_ (by assumption) ?_
              rotate_left
              · (intro w hSw; (try dsimp only at hSw); go_simp; (try with_reducible rfl))
              simp only [Act.put, List.setIfInBounds_toArray, List.set_cons_zero, List.set_cons_succ]
              refine take_at (i := 13) (d := 140) (v := ?_) rfl rfl (by kernel_rfl) (by kernel_rfl) (by kernel_rfl) (fun _ _ _ h => h) (by rfl) ?_ (by assumption) ?_
              rotate_left
              · (intro w hSw; (try dsimp only at hSw); go_simp; (try with_reducible rfl))
              simp only [Act.put, List.setIfInBounds_toArray, List.set_cons_zero, List.set_cons_succ]
              refine take_at (i := 14) (d := 141) (v := ?_) rfl rfl (by kernel_rfl) (by kernel_rfl) (by kernel_rfl) (fun _ _ _ h => h) (by rfl) ?_ (by assumption) ?_
              rotate_left
              · (intro w hSw; (try dsimp only at hSw); go_simp; (try with_reducible rfl))
              simp only [Act.put, List.setIfInBounds_toArray, List.set_cons_zero, List.set_cons_succ]
              refine take_at (i := 15) (d := 142) (v := ?_) rfl rfl (by kernel_rfl) (by kernel_rfl) (by kernel_rfl) (fun _ _ _ h => h) (by rfl) ?_ (by assumption) ?_
              rotate_left
              · (intro w hSw; (try dsimp only at hSw); go_simp; (try with_reducible rfl))
              simp only [Act.put, List.setIfInBounds_toArray, List.set_cons_zero, List.set_cons_succ]
              refine take_at (i := 16) (d := 143) (v := ?_) rfl rfl (by kernel_rfl) (by kernel_rfl) (by kernel_rfl) (fun _ _ _ h => h) (by rfl) ?_ (by assumption) ?_
              rotate_left
              · (intro w hSw; (try dsimp only at hSw); go_simp; (try with_reducible rfl))
              simp only [Act.put, List.setIfInBounds_toArray, List.set_cons_zero, List.set_cons_succ]
              refine take_at (i := 17) (d := 144) (v := ?_) rfl rfl (by kernel_rfl) (by kernel_rfl) (by kernel_rfl) (fun _ _ _ h => h) (by rfl) ?_ (by assumption) ?_
              rotate_left
              · (intro w hSw; (try dsimp only at hSw); go_simp; (try with_reducible rfl))
              simp only [Act.put, List.setIfInBounds_toArray, List.set_cons_zero, List.set_cons_succ]
              refine take_at (i := 18) (d := 145) (v := ?_) rfl rfl (by kernel_rfl) (by kernel_rfl) (by kernel_rfl) (fun _ _ _ h => h) (by rfl) ?_ (by assumption) ?_
              rotate_left
              · (intro w hSw; (try dsimp only at hSw); go_simp; (try with_reducible rfl))
              simp only [Act.put, List.setIfInBounds_toArray, List.set_cons_zero, List.set_cons_succ]
              refine take_at (i := 19) (d := 146) (v := ?_) rfl rfl (by kernel_rfl) (by kernel_rfl) (by kernel_rfl) (fun _ _ _ h => h) (by rfl) ?_ (by assumption) ?_
              rotate_left
              · (intro w hSw; (try dsimp only at hSw); go_simp; (try with_reducible rfl))
              simp only [Act.put, List.setIfInBounds_toArray, List.set_cons_zero, List.set_cons_succ]
              refine take_at (i := 20) (d := 147) (v := ?_) rfl rfl (by kernel_rfl) (by kernel_rfl) (by kernel_rfl) (fun _ _ _ h => h) (by rfl) ?_ (by assumption) ?_
              rotate_left
              · (intro w hSw; (try dsimp only at hSw); go_simp; (try with_reducible rfl))
              simp only [Act.put, List.setIfInBounds_toArray, List.set_cons_zero, List.set_cons_succ]
              refine take_at (i := 21) (d := 148) (v := ?_) rfl rfl (by kernel_rfl) (by kernel_rfl) (by kernel_rfl) (fun _ _ _ h => h) (by rfl) ?_ (by assumption) ?_
              rotate_left
              · (intro w hSw; (try dsimp only at hSw); go_simp; (try with_reducible rfl))
              simp only [Act.put, List.setIfInBounds_toArray, List.set_cons_zero, List.set_cons_succ]
              refine take_at (i := 22) (d := 149) (v := ?_) rfl rfl (by kernel_rfl) (by kernel_rfl) (by kernel_rfl) (fun _ _ _ h => h) (by rfl) ?_ (by assumption) ?_
              rotate_left
              · (intro w hSw; (try dsimp only at hSw); go_simp; (try with_reducible rfl))
              simp only [Act.put, List.setIfInBounds_toArray, List.set_cons_zero, List.set_cons_succ]
              refine take_at (i := 23) (d := 150) (v := ?_) rfl rfl (by kernel_rfl) (by kernel_rfl) (by kernel_rfl) (fun _ _ _ h => h) (by rfl) ?_ (by assumption) ?_
              rotate_left
              · (intro w hSw; (try dsimp only at hSw); go_simp; (try with_reducible rfl))
              simp only [Act.put, List.setIfInBounds_toArray, List.set_cons_zero, List.set_cons_succ]
              refine take_at (i := 24) (d := 151) (v := ?_) rfl rfl (by kernel_rfl) (by kernel_rfl) (by kernel_rfl) (fun _ _ _ h => h) (by rfl) ?_ (by assumption) ?_
              rotate_left
              · (intro w hSw; (try dsimp only at hSw); go_simp; (try with_reducible rfl))
              simp only [Act.put, List.setIfInBounds_toArray, List.set_cons_zero, List.set_cons_succ]
              refine take_at (i := 25) (d := 152) (v := ?_) rfl rfl (by kernel_rfl) (by kernel_rfl) (by kernel_rfl) (fun _ _ _ h => h) (by rfl) ?_ (by assumption) ?_
              rotate_left
              · (intro w hSw; (try dsimp only at hSw); go_simp; (try with_reducible rfl))
              simp only [Act.put, List.setIfInBounds_toArray, List.set_cons_zero, List.set_cons_succ]
              refine take_at (i := 26) (d := 153) (v := ?_) rfl rfl (by kernel_rfl) (by kernel_rfl) (by kernel_rfl) (fun _ _ _ h => h) (by rfl) ?_ (by assumption) ?_
              rotate_left
              · (intro w hSw; (try dsimp only at hSw); go_simp; (try with_reducible rfl))
              simp only [Act.put, List.setIfInBounds_toArray, List.set_cons_zero, List.set_cons_succ]
              refine take_at (i := 27) (d := 154) (v := ?_) rfl rfl (by kernel_rfl) (by kernel_rfl) (by kernel_rfl) (fun _ _ _ h => h) (by rfl) ?_ (by assumption) ?_
              rotate_left
              · (intro w hSw; (try dsimp only at hSw); go_simp; (try with_reducible rfl))
              simp only [Act.put, List.setIfInBounds_toArray, List.set_cons_zero, List.set_cons_succ]
              refine take_at (i := 28) (d := 155) (v := ?_) rfl rfl (by kernel_rfl) (by kernel_rfl) (by kernel_rfl) (fun _ _ _ h => h) (by rfl) ?_ (by assumption) ?_
              rotate_left
              · (intro w hSw; (try dsimp only at hSw); go_simp; (try with_reducible rfl))
              simp only [Act.put, List.setIfInBounds_toArray, List.set_cons_zero, List.set_cons_succ]
              refine take_at (i := 29) (d := 156) (v := ?_) rfl rfl (by kernel_rfl) (by kernel_rfl) (by kernel_rfl) (fun _ _ _ h => h) (by rfl) ?_ (by assumption) ?_
              rotate_left
              · (intro w hSw; (try dsimp only at hSw); go_simp; (try with_reducible rfl))
              simp only [Act.put, List.setIfInBounds_toArray, List.set_cons_zero, List.set_cons_succ]
              refine take_at (i := 30) (d := 157) (v := ?_) rfl rfl (by kernel_rfl) (by kernel_rfl) (by kernel_rfl) (fun _ _ _ h => h) (by rfl) ?_ (by assumption) ?_
              rotate_left
              · (intro w hSw; (try dsimp only at hSw); go_simp; (try with_reducible rfl))
              simp only [Act.put, List.setIfInBounds_toArray, List.set_cons_zero, List.set_cons_succ]
              refine take_at (i := 31) (d := 158) (v := ?_) rfl rfl (by kernel_rfl) (by kernel_rfl) (by kernel_rfl) (fun _ _ _ h => h) (by rfl) ?_ (by assumption) ?_
              rotate_left
              · (intro w hSw; (try dsimp only at hSw); go_simp; (try with_reducible rfl))
              simp only [Act.put, List.setIfInBounds_toArray, List.set_cons_zero, List.set_cons_succ]
              refine take_at (i := 32) (d := 159) (v := ?_) rfl rfl (by kernel_rfl) (by kernel_rfl) (by kernel_rfl) (fun _ _ _ h => h) (by rfl) ?_ (by assumption) ?_
              rotate_left
              · (intro w hSw; (try dsimp only at hSw); go_simp; (try with_reducible rfl))
              simp only [Act.put, List.setIfInBounds_toArray, List.set_cons_zero, List.set_cons_succ]
              refine take_at (i := 33) (d := 160) (v := ?_) rfl rfl (by kernel_rfl) (by kernel_rfl) (by kernel_rfl) (fun _ _ _ h => h) (by rfl) ?_ (by assumption) ?_
              rotate_left
              · (intro w hSw; (try dsimp only at hSw); go_simp; (try with_reducible rfl))
              simp only [Act.put, List.setIfInBounds_toArray, List.set_cons_zero, List.set_cons_succ]
              refine take_at (i := 34) (d := 161) (v := ?_) rfl rfl (by kernel_rfl) (by kernel_rfl) (by kernel_rfl) (fun _ _ _ h => h) (by rfl) ?_ (by assumption) ?_
              rotate_left
              · (intro w hSw; (try dsimp only at hSw); go_simp; (try with_reducible rfl))
              simp only [Act.put, List.setIfInBounds_toArray, List.set_cons_zero, List.set_cons_succ]
              refine take_at (i := 35) (d := 162) (v := ?_) rfl rfl (by kernel_rfl) (by kernel_rfl) (by kernel_rfl) (fun _ _ _ h => h) (by rfl) ?_ (by assumption) ?_
              rotate_left
              · (intro w hSw; (try dsimp only at hSw); go_simp; (try with_reducible rfl))
              simp only [Act.put, List.setIfInBounds_toArray, List.set_cons_zero, List.set_cons_succ]
              refine take_at (i := 36) (d := 163) (v := ?_) rfl rfl (by kernel_rfl) (by kernel_rfl) (by kernel_rfl) (fun _ _ _ h => h) (by rfl) ?_ (by assumption) ?_
              rotate_left
              · (intro w hSw; (try dsimp only at hSw); go_simp; (try with_reducible rfl))
              simp only [Act.put, List.setIfInBounds_toArray, List.set_cons_zero, List.set_cons_succ]
              refine take_at (i := 37) (d := 164) (v := ?_) rfl rfl (by kernel_rfl) (by kernel_rfl) (by kernel_rfl) (fun _ _ _ h => h) (by rfl) ?_ (by assumption) ?_
              rotate_left
              · (intro w hSw; (try dsimp only at hSw); go_simp; (try with_reducible rfl))
              simp only [Act.put, List.setIfInBounds_toArray, List.set_cons_zero, List.set_cons_succ]
              refine take_at (i := 38) (d := 165) (v := ?_) rfl rfl (by kernel_rfl) (by kernel_rfl) (by kernel_rfl) (fun _ _ _ h => h) (by rfl) ?_ (by assumption) ?_
              rotate_left
              · (intro w hSw; (try dsimp only at hSw); go_simp; (try with_reducible rfl))
              simp only [Act.put, List.setIfInBounds_toArray, List.set_cons_zero, List.set_cons_succ]
              refine take_at (i := 39) (d := 166) (v := ?_) rfl rfl (by kernel_rfl) (by kernel_rfl) (by kernel_rfl) (fun _ _ _ h => h) (by rfl) ?_ (by assumption) ?_
              rotate_left
              · (intro w hSw; (try dsimp only at hSw); go_simp; (try with_reducible rfl))
              simp only [Act.put, List.setIfInBounds_toArray, List.set_cons_zero, List.set_cons_succ]
              refine take_at (i := 40) (d := 167) (v := ?_) rfl rfl (by kernel_rfl) (by kernel_rfl) (by kernel_rfl) (fun _ _ _ h => h) (by rfl) ?_ (by assumption) ?_
              rotate_left
              · (intro w hSw; (try dsimp only at hSw); go_simp; (try with_reducible rfl))
              simp only [Act.put, List.setIfInBounds_toArray, List.set_cons_zero, List.set_cons_succ]
              refine take_at (i := 41) (d := 168) (v := ?_) rfl rfl (by kernel_rfl) (by kernel_rfl) (by kernel_rfl) (fun _ _ _ h => h) (by rfl) ?_ (by assumption) ?_
              rotate_left
              · (intro w hSw; (try dsimp only at hSw); go_simp; (try with_reducible rfl))
              simp only [Act.put, List.setIfInBounds_toArray, List.set_cons_zero, List.set_cons_succ]
              refine take_at (i := 42) (d := 169) (v := ?_) rfl rfl (by kernel_rfl) (by kernel_rfl) (by kernel_rfl) (fun _ _ _ h => h) (by rfl) ?_ (by assumption) ?_
              rotate_left
              · (intro w hSw; (try dsimp only at hSw); go_simp; (try with_reducible rfl))
              simp only [Act.put, List.setIfInBounds_toArray, List.set_cons_zero, List.set_cons_succ]
              refine take_at (i := 43) (d := 170) (v := ?_) rfl rfl (by kernel_rfl) (by kernel_rfl) (by kernel_rfl) (fun _ _ _ h => h) (by rfl) ?_ (by assumption) ?_
              rotate_left
              · (intro w hSw; (try dsimp only at hSw); go_simp; (try with_reducible rfl))
              simp only [Act.put, List.setIfInBounds_toArray, List.set_cons_zero, List.set_cons_succ]
              clear hHeld
              refine call_at (i := 44) (d := 171) (f := 11) (args := #[.int .i64 s.gr, .bool false, .agg #[.bool false, .int .i64 pq]]) (by kernel_rfl) rfl rfl (by rfl) (by go_simp) ?_
              refine (HAl.out _).mono ?_
              rintro e w10 ⟨rfl, hb10⟩
              have hb10' : Later W9 w10 := (Later.refl _).drew.trans hb10
              refine ⟨_, rfl, hS _ hb10', fun hHeld => ?_⟩
              simp only [Act.put, List.setIfInBounds_toArray, List.set_cons_zero, List.set_cons_succ]
              refine take_at (i := 45) (d := 172) (v := ?_) rfl rfl (by kernel_rfl) (by kernel_rfl) (by kernel_rfl) (fun _ _ _ h => h) (by rfl) ?_ (by assumption) ?_
              rotate_left
              · (intro w hSw; (try dsimp only at hSw); go_simp; (try with_reducible rfl))
              simp only [Act.put, List.setIfInBounds_toArray, List.set_cons_zero, List.set_cons_succ]
              refine take_at (i := 46) (d := 173) (v := ?_) rfl rfl (by kernel_rfl) (by kernel_rfl) (by kernel_rfl) (fun _ _ _ h => h) (by rfl) ?_ (by assumption) ?_
              rotate_left
              · (intro w hSw; (try dsimp only at hSw); go_simp; (try with_reducible rfl))
              simp only [Act.put, List.setIfInBounds_toArray, List.set_cons_zero, List.set_cons_succ]
              clear hHeld hS
              as_aux_lemma =>
              refine wpAnyH_done (by kernel_rfl) ?_ _
              as_aux_lemma =>
              go_upto_region 26 with fail
              have G6 := F6.later hb10'
              have G9 := D9.later hb10'
              have GB := FB.later hb10'
              have g0 := hb10'.cell f0
              have g1 := hb10'.cell f1
              have g2 := hb10'.cell f2
              have g3 := hb10'.cell f3
              have g4 := hb10'.cell f4
              clear f0 f1 f2 f3 f4 hbs F6 D9 FB D6 B5
              have p0 : w10.cell? ⟨g6, 0, none⟩ = some (.int .i64 sn) := G6.cell 0
              have p1 : w10.cell? ⟨g6, 1, none⟩ = some (.bool false) := G6.cell 1
              have p2 : w10.cell? ⟨g6, 2, none⟩ = some (.int .i64 pq) := G6.cell 2
              have p3 : w10.cell? ⟨g6, 3, none⟩ = some (.int .i64 px) := G6.cell 3
              have p4 : w10.cell? ⟨g6, 4, none⟩ = some (.int .i64 py) := G6.cell 4
              have zp := G6.lt
              have zbs := World.block_lt_of_cell? _ _ g0
              have HAp := Lib.hid (fun W => apply_match (W := W) (sn := sn) (f := false) (q := pq) (ax := s.ax) (ay := s.ay) (qx := px) (qy := py) (rx := brx) (ry := bry) (mt := s.mt) bx Hmt.out)
              go_cut [20] from 174 to 182 (fun v wx => ∃ (gq : Nat) (x y : Int), v = .pointer (some ⟨gq, 0, none⟩) ∧ Blk wx gq 29 #[.int .i64 x, .int .i64 y] ∧ Later w10 wx ∧ (s.mt = true → IntKind.i64.wrap (x + px) = x + px ∧ IntKind.i64.wrap (y + py) = y + py ∧ sameP brx bry ⟨x + px, y + py⟩ ⟨0, 0⟩ = true))
              case first =>
                have hS : ∀ w' : World, Later w10 w' → (w'.cell? ⟨g6, 0, none⟩ = some (.int .i64 sn) ∧ w'.cell? ⟨g6, 1, none⟩ = some (.bool false) ∧ w'.cell? ⟨g6, 2, none⟩ = some (.int .i64 pq) ∧ w'.cell? ⟨bs, os + sn * 5 + 3, none⟩ = some (.int .i64 s.ax) ∧ w'.cell? ⟨bs, os + sn * 5 + 4, none⟩ = some (.int .i64 s.ay) ∧ g6 < w'.heap.size ∧ bs < w'.heap.size) := fun w' h => ⟨h.cell p0, h.cell p1, h.cell p2, h.cell g3, h.cell g4, Nat.lt_of_lt_of_le zp h.size, Nat.lt_of_lt_of_le zbs h.size⟩
                as_aux_lemma =>
                refine wp_region_held_drew (S := fun w' : World => w'.cell? ⟨g6, 0, none⟩ = some (.int .i64 sn) ∧ w'.cell? ⟨g6, 1, none⟩ = some (.bool false) ∧ w'.cell? ⟨g6, 2, none⟩ = some (.int .i64 pq) ∧ w'.cell? ⟨bs, os + sn * 5 + 3, none⟩ = some (.int .i64 s.ax) ∧ w'.cell? ⟨bs, os + sn * 5 + 4, none⟩ = some (.int .i64 s.ay) ∧ g6 < w'.heap.size ∧ bs < w'.heap.size) (by kernel_rfl) (hS _ (Later.refl _).drew) (fun hHeld => ?_)
                refine take_at (i := 0) (d := 174) (v := ?_) rfl rfl (by kernel_rfl) (by kernel_rfl) (by kernel_rfl) (fun _ _ _ h => h) (by rfl) ?_ (by assumption) ?_
                rotate_left
                · (intro w hSw; (try dsimp only at hSw); go_simp; (try with_reducible rfl))
                simp only [Act.put, List.setIfInBounds_toArray, List.set_cons_zero, List.set_cons_succ]
                refine take_at (i := 1) (d := 175) (v := ?_) rfl rfl (by kernel_rfl) (by kernel_rfl) (by kernel_rfl) (fun _ _ _ h => h) (by rfl) ?_ (by assumption) ?_
                rotate_left
                · (intro w hSw; (try dsimp only at hSw); go_simp; (try with_reducible rfl))
                simp only [Act.put, List.setIfInBounds_toArray, List.set_cons_zero, List.set_cons_succ]
                refine take_at (i := 2) (d := 176) (v := ?_) rfl rfl (by kernel_rfl) (by kernel_rfl) (by kernel_rfl) (fun _ _ _ h => h) (by rfl) ?_ (by assumption) ?_
                rotate_left
                · (intro w hSw; (try dsimp only at hSw); go_simp; (try with_reducible rfl))
                simp only [Act.put, List.setIfInBounds_toArray, List.set_cons_zero, List.set_cons_succ]
                refine take_at (i := 3) (d := 177) (v := ?_) rfl rfl (by kernel_rfl) (by kernel_rfl) (by kernel_rfl) (fun _ _ _ h => h) (by rfl) ?_ (by assumption) ?_
                rotate_left
                · (intro w hSw; (try dsimp only at hSw); go_simp; (try with_reducible rfl))
                simp only [Act.put, List.setIfInBounds_toArray, List.set_cons_zero, List.set_cons_succ]
                refine take_at (i := 4) (d := 178) (v := ?_) rfl rfl (by kernel_rfl) (by kernel_rfl) (by kernel_rfl) (fun _ _ _ h => h) (by rfl) ?_ (by assumption) ?_
                rotate_left
                · (intro w hSw; (try dsimp only at hSw); go_simp; (try with_reducible rfl))
                simp only [Act.put, List.setIfInBounds_toArray, List.set_cons_zero, List.set_cons_succ]
                refine take_at (i := 5) (d := 179) (v := ?_) rfl rfl (by kernel_rfl) (by kernel_rfl) (by kernel_rfl) (fun _ _ _ h => h) (by rfl) ?_ (by assumption) ?_
                rotate_left
                · (intro w hSw; (try dsimp only at hSw); go_simp; (try with_reducible rfl))
                simp only [Act.put, List.setIfInBounds_toArray, List.set_cons_zero, List.set_cons_succ]
                refine take_at (i := 6) (d := 180) (v := ?_) rfl rfl (by kernel_rfl) (by kernel_rfl) (by kernel_rfl) (fun _ _ _ h => h) (by rfl) ?_ (by assumption) ?_
                rotate_left
                · (intro w hSw; (try dsimp only at hSw); go_simp; (try with_reducible rfl))
                simp only [Act.put, List.setIfInBounds_toArray, List.set_cons_zero, List.set_cons_succ]
                refine take_at (i := 7) (d := 181) (v := ?_) rfl rfl (by kernel_rfl) (by kernel_rfl) (by kernel_rfl) (fun _ _ _ h => h) (by rfl) ?_ (by assumption) ?_
                rotate_left
                · (intro w hSw; (try dsimp only at hSw); go_simp; (try with_reducible rfl))
                simp only [Act.put, List.setIfInBounds_toArray, List.set_cons_zero, List.set_cons_succ]
                clear hHeld
                as_aux_lemma =>
                refine wpAnyH_ready (rs := [8, 9]) (by kernel_rfl) (by simp) (rdy_call (i := 8) (d := 182) (f := 12) (args := #[.agg #[.bool false, .int .i64 pq], .agg #[.int .i64 s.ax, .int .i64 s.ay]]) rfl rfl (by rfl) (by go_simp) ?_ (rdy_val (i := 9) (d := 20) (v := .pointer (some ⟨w10.drew.heap.size, 0, none⟩)) (w' := w10.drew.alloc (.cells #[.int .i64 0, .int .i64 0] 29)) rfl rfl (by rfl) (by go_simp) (hS _ ((Later.refl _).drew.alloc _)) ?_ AllReadyH.nil))
                · refine (HAp.out _).mono ?_
                  rintro e w11 ⟨x, y, rfl, hb11, hm11⟩
                  have hL11 : Later w10 w11 := (Later.refl _).drew.trans hb11
                  refine ⟨_, rfl, hS _ hL11, ?_⟩
                  simp only [Act.put, List.setIfInBounds_toArray, List.set_cons_zero, List.set_cons_succ]
                  refine val_at (i := 9) (d := 20) (v := .pointer (some ⟨w11.heap.size, 0, none⟩)) (w' := w11.alloc (.cells #[.int .i64 0, .int .i64 0] 29)) (by kernel_rfl) rfl rfl (by rfl) (by go_simp) (hS _ (hL11.alloc _)) ?_
                  simp only [Act.put, List.setIfInBounds_toArray, List.set_cons_zero, List.set_cons_succ]
                  have hBq : Blk (w11.alloc (.cells #[.int .i64 0, .int .i64 0] 29)) w11.heap.size 29 #[.int .i64 0, .int .i64 0] := Blk.new _ _ _
                  have hLW : Later w10 (w11.alloc (.cells #[.int .i64 0, .int .i64 0] 29)) := hL11.alloc _
                  have hgq : w10.heap.size ≤ w11.heap.size := hL11.size
                  generalize w11.alloc (.cells #[.int .i64 0, .int .i64 0] 29) = w12 at *
                  generalize w11.heap.size = gq at *
                  have c0 := hBq.cell 0
                  have c1 := hBq.cell 1
                  have c2 := hBq.frozen 0
                  have c3 := hBq.frozen 1
                  have cz := hBq.lt
                  refine sto_at (i := 10) (w' := (w12.setCell ⟨gq, 0, none⟩ (.int .i64 x)).setCell ⟨gq, 1, none⟩ (.int .i64 y)) (by kernel_rfl) rfl rfl (by rfl) (by go_simp) (hS _ ((hLW.put (by omega) _).put (by omega) _)) ?_
                  as_aux_lemma =>
                  refine wpAnyH_done (by kernel_rfl) ?_ _
                  go_wp2_with fail
                  go_meet
                  exact ⟨_, x, y, rfl, Blk.two hBq, (hLW.put (by omega) _).put (by omega) _, hm11⟩
                · simp only [Act.put, List.setIfInBounds_toArray, List.set_cons_zero, List.set_cons_succ]
                  have hBq0 : Blk (w10.drew.alloc (.cells #[.int .i64 0, .int .i64 0] 29)) w10.drew.heap.size 29 #[.int .i64 0, .int .i64 0] := Blk.new _ _ _
                  have hLW0 : Later w10 (w10.drew.alloc (.cells #[.int .i64 0, .int .i64 0] 29)) := (Later.refl _).drew.alloc _
                  have hgq : w10.heap.size ≤ w10.drew.heap.size := Nat.le_refl _
                  generalize w10.drew.alloc (.cells #[.int .i64 0, .int .i64 0] 29) = w11 at *
                  generalize w10.drew.heap.size = gq at *
                  refine wpAnyH_ready (rs := [8]) (by kernel_rfl) (by simp) (rdy_call (i := 8) (d := 182) (f := 12) (args := #[.agg #[.bool false, .int .i64 pq], .agg #[.int .i64 s.ax, .int .i64 s.ay]]) rfl rfl (by rfl) (by go_simp) ?_ AllReadyH.nil)
                  refine (HAp.out _).mono ?_
                  rintro e w12 ⟨x, y, rfl, hb11, hm11⟩
                  have hLW : Later w10 w12 := hLW0.trans hb11
                  have hBq := hBq0.later hb11
                  refine ⟨_, rfl, hS _ hLW, ?_⟩
                  simp only [Act.put, List.setIfInBounds_toArray, List.set_cons_zero, List.set_cons_succ]
                  have c0 := hBq.cell 0
                  have c1 := hBq.cell 1
                  have c2 := hBq.frozen 0
                  have c3 := hBq.frozen 1
                  have cz := hBq.lt
                  refine sto_at (i := 10) (w' := (w12.setCell ⟨gq, 0, none⟩ (.int .i64 x)).setCell ⟨gq, 1, none⟩ (.int .i64 y)) (by kernel_rfl) rfl rfl (by rfl) (by go_simp) (hS _ ((hLW.put (by omega) _).put (by omega) _)) ?_
                  as_aux_lemma =>
                  refine wpAnyH_done (by kernel_rfl) ?_ _
                  go_wp2_with fail
                  go_meet
                  exact ⟨_, x, y, rfl, Blk.two hBq, (hLW.put (by omega) _).put (by omega) _, hm11⟩
              case rest =>
                obtain ⟨gq, x, y, rfl, DQ, hbq, Hmq⟩ := hcut
                generalize wc = w11 at *
                have GB2 := GB.later hbq
                have G62 := G6.later hbq
                have m2 := hbq.cell g2
                clear p0 p1 p2 p3 p4 zp zbs g0 g1 g2 g3 g4
                have u2 : w11.cell? ⟨g, 2, none⟩ = some (.int .i64 brx) := GB2.cell 2
                have u3 : w11.cell? ⟨g, 3, none⟩ = some (.int .i64 bry) := GB2.cell 3
                have p0 : w11.cell? ⟨g6, 0, none⟩ = some (.int .i64 sn) := G62.cell 0
                have p3 : w11.cell? ⟨g6, 3, none⟩ = some (.int .i64 px) := G62.cell 3
                have p4 : w11.cell? ⟨g6, 4, none⟩ = some (.int .i64 py) := G62.cell 4
                have q0 : w11.cell? ⟨gq, 0, none⟩ = some (.int .i64 x) := DQ.cell 0
                have q1 : w11.cell? ⟨gq, 1, none⟩ = some (.int .i64 y) := DQ.cell 1
                have zg := GB2.lt
                have zp := G62.lt
                have zq := DQ.lt
                have zbs := World.block_lt_of_cell? _ _ m2
                have hmq := Lib.hid Hmq
                clear Hmq
                go_upto_region 27 with fail
                go_cut [208] from 183 to 208 (fun v wx => v = .bool false ∧ Later w11 wx)
                case first =>
                  rcases hmt : s.mt with _ | _
                  · rw [hmt] at m2
                    clear hmt
                    go_wp2_with fail
                    go_meet
                    exact ⟨rfl, Later.refl _⟩
                  · rw [hmt] at m2
                    obtain ⟨wx, wy, hsm⟩ := hmq.out hmt
                    have HSb := Lib.hid (fun W => stripe_Same brx bry (x + px) (y + py) 0 0 W)
                    rw [hsm] at HSb
                    clear hmt hsm
                    go_wp2_with (go_at_call 13; (with_reducible refine (HSb.out _).mono ?_); rintro e w14 ⟨rfl, hb14⟩)
                    go_meet
                    exact ⟨rfl, hb14⟩
                case rest =>
                  obtain ⟨rfl, hbr2⟩ := hcut
                  generalize wc = w12 at *
                  have h712 : Later w7 w12 := hb8.trans (hl9.trans (hb10'.trans (hbq.trans hbr2)))
                  have HA := Lib.hid (fun W (hW : Later w12 W) => HA2.out A7 c7 W Hp7.out.1 (Hp7.out.2.later (h712.trans hW)))
                  have vn : IntKind.i64.wrap (-ar) = -ar := IntWalk.i64_in _ (by omega)
                  have vs : IntKind.i64.wrap (a + max ar (-ar)) = a + max ar (-ar) := IntWalk.i64_in _ (by omega)
                  have G612 := G62.later hbr2
                  clear u2 u3 p0 p3 p4 q0 q1 zg zp zq zbs m2 GB2 G62 GB DQ hmq
                  as_aux_lemma =>
                  go_upto_region 31 with (go_at_call 14; (with_reducible refine (HA.out _ (by repeat' (with_reducible first | exact Later.refl _ | assumption | refine Later.drew ?_ | refine Later.drewN ?_ _ | refine Later.alloc ?_ _ | refine Later.put ?_ (by omega) _ | refine Later.trans ?_ (by assumption)))).mono ?_); rintro e w13 ⟨rfl, hb13⟩)
                  have h13 : Later w12 w13 := (by repeat' (with_reducible first | exact Later.refl _ | assumption | refine Later.drew ?_ | refine Later.drewN ?_ _ | refine Later.alloc ?_ _ | refine Later.put ?_ (by omega) _ | refine Later.trans ?_ (by assumption)))
                  have G613 := G612.later h13
                  have h713 := h712.trans h13
                  have h5L : Later w5 w13 := hbr.trans (hb89.trans (hb10'.trans (hbq.trans (hbr2.trans h13))))
                  have HPo2 := Lib.hid (fun i (hi : i < puts.length) W (hW : Later w W) => place_Poly_yes _ cc l puts[i] W (hs.later hW) (by omega) (fun s h => by have := Hlen.out s h; omega) (HN.out.sound _ (List.getElem_mem hi)).1.2.1)
                  unfold Pu.agg PolyOk at HPo2
                  clear HA vn
                  go_loopw [21] (fun iv wx => ∃ i : Nat, i ≤ k ∧ iv = .int .i64 i ∧ Later w13 wx) (fun iv _ => k - (intOf iv).toNat)
                  case atStart => exact ⟨0, by omega, rfl, Later.refl _⟩
                  case round =>
                    obtain ⟨i, hi, rfl, hbi⟩ := hrel
                    generalize wr = wi at *
                    have h5i := h5L.trans hbi
                    have hwi := Hl.out.2.trans h5i
                    by_cases hik : i < k
                    · have hin : i < puts.length := by omega
                      obtain ⟨b', o', e', y0, y1, y2, y3, y4, _⟩ := (Hp5.out.later h5i).at_ hin
                      cases e'
                      have zbp := World.block_lt_of_cell? _ _ y0
                      have hsoi := (HN.out.sound _ (List.getElem_mem hin)).1
                      have HPi := Lib.hid (fun W (hW : Later w W) => HPo2.out i hin W hW)
                      have i0 := poly_zero hsoi.2.1
                      have i1 := i0.1
                      have i2 := i0.2.1
                      have i3 := i0.2.2.1
                      clear i0
                      have bi : -1048576 ≤ puts[i].x ∧ puts[i].x ≤ 1048576 ∧ -1048576 ≤ puts[i].y ∧ puts[i].y ≤ 1048576 := by
                        have := outside_near i3
                        unfold NearP at this
                        exact this
                      obtain ⟨si, hsi⟩ : ∃ si : Nat, puts[i].sh = (si : Int) := ⟨puts[i].sh.toNat, by omega⟩
                      have hsil : si < l.length := by omega
                      have hgi : gs l puts[i].sh.toNat = l[si] := by rw [hsi]; exact gs_at hsil
                      have HT1 := Lib.hid (fun W (hW : Later w W) => shape_turn hs hsil (by have := (sound_turned hsoi).1; rwa [hgi] at this) puts[i].fl puts[i].q W hW)
                      have HOi := Lib.hid (fun A B ca cb W ha hb pa pb => HPv.out i hik hin A B ca cb W ha hb pa pb)
                      have HBi := Lib.hid (fun A B ca cb W ha hb pa pb => HPb.out i hik hin A B ca cb W ha hb pa pb)
                      rw [hgi] at HBi
                      obtain ⟨b', o', e', f0, _⟩ := (hs.later hwi).at_ hsil
                      cases e'
                      obtain ⟨b', o', e', f1, _⟩ := (hs.later hwi).at_ hsnl
                      cases e'
                      rw [hsh] at f1
                      have zbs := World.block_lt_of_cell? _ _ f0
                      clear hsoi i1 i2 i3 hgi
                      generalize l[si] = t at *
                      generalize (polyR l puts[i]).1 = ri at *
                      generalize puts[i] = p' at *
                      obtain ⟨ish, fi, iq, ix, iy⟩ := p'
                      simp only [] at y0 y1 y2 y3 y4 HPi bi hsi HT1 HBi
                      subst hsi
                      generalize turnPs fi iq t.ps = ti at *
                      generalize turnPs false pq s.ps = ts at *
                      have hi0 : (0 : Int) ≤ (i : Int) := by omega
                      have hi1 : (i : Int) < (puts.length : Int) := by omega
                      have hi2 : (i : Int) < (k : Int) := by omega
                      have hi3 : (0 : Int) ≤ (si : Int) := by omega
                      have hi4 : (si : Int) < (l.length : Int) := by omega
                      have vx : IntKind.i64.wrap (px - ix) = px - ix := IntWalk.i64_in _ (by omega)
                      have vy : IntKind.i64.wrap (py - iy) = py - iy := IntWalk.i64_in _ (by omega)
                      as_aux_lemma =>
                      go_upto_region 34 with (go_at_call 9; (with_reducible refine (HPi.out _ (by exact hwi)).mono ?_); rintro e w15 ⟨A15, c15, rfl, hc15, _, hp15, hb15⟩)
                      have HOv := Lib.hid (HOi.out A15 A7 c15 c7 w15 hc15 Hp7.out.1 hp15 (Hp7.out.2.later (h713.trans (hbi.trans hb15))))
                      go_upto_region 35 with (go_at_call 15; (with_reducible refine HOv.out.mono ?_); rintro e w16 ⟨rfl, hb16⟩)
                      have hiw : Later wi w16 := hb15.trans hb16
                      have hww : Later w w16 := hwi.trans hiw
                      have G616 := G613.later (hbi.trans hiw)
                      have hS : ∀ w' : World, Later w16 w' → (w'.cell? ⟨bp, op + i * 5, none⟩ = some (.int .i64 si) ∧ w'.cell? ⟨bp, op + i * 5 + 1, none⟩ = some (.bool fi) ∧ w'.cell? ⟨bp, op + i * 5 + 2, none⟩ = some (.int .i64 iq) ∧ w'.cell? ⟨bp, op + i * 5 + 3, none⟩ = some (.int .i64 ix) ∧ w'.cell? ⟨bp, op + i * 5 + 4, none⟩ = some (.int .i64 iy) ∧ w'.cell? ⟨bs, os + si * 5, none⟩ = some (.slice t.pa t.ps.length t.pc) ∧ w'.cell? ⟨bs, os + sn * 5, none⟩ = some (.slice s.pa s.ps.length s.pc) ∧ w'.cell? ⟨g6, 0, none⟩ = some (.int .i64 sn) ∧ w'.cell? ⟨g6, 1, none⟩ = some (.bool false) ∧ w'.cell? ⟨g6, 2, none⟩ = some (.int .i64 pq) ∧ w'.cell? ⟨g6, 3, none⟩ = some (.int .i64 px) ∧ w'.cell? ⟨g6, 4, none⟩ = some (.int .i64 py) ∧ g6 < w'.heap.size ∧ bp < w'.heap.size ∧ bs < w'.heap.size) := fun w' h => ⟨h.cell (hiw.cell y0), h.cell (hiw.cell y1), h.cell (hiw.cell y2), h.cell (hiw.cell y3), h.cell (hiw.cell y4), h.cell (hiw.cell f0), h.cell (hiw.cell f1), (G616.later h).cell 0, (G616.later h).cell 1, (G616.later h).cell 2, (G616.later h).cell 3, (G616.later h).cell 4, (G616.later h).lt, Nat.lt_of_lt_of_le zbp (hiw.trans h).size, Nat.lt_of_lt_of_le zbs (hiw.trans h).size⟩
                      as_aux_lemma =>
                      refine wp_region_held_drew (S := fun w' : World => w'.cell? ⟨bp, op + i * 5, none⟩ = some (.int .i64 si) ∧ w'.cell? ⟨bp, op + i * 5 + 1, none⟩ = some (.bool fi) ∧ w'.cell? ⟨bp, op + i * 5 + 2, none⟩ = some (.int .i64 iq) ∧ w'.cell? ⟨bp, op + i * 5 + 3, none⟩ = some (.int .i64 ix) ∧ w'.cell? ⟨bp, op + i * 5 + 4, none⟩ = some (.int .i64 iy) ∧ w'.cell? ⟨bs, os + si * 5, none⟩ = some (.slice t.pa t.ps.length t.pc) ∧ w'.cell? ⟨bs, os + sn * 5, none⟩ = some (.slice s.pa s.ps.length s.pc) ∧ w'.cell? ⟨g6, 0, none⟩ = some (.int .i64 sn) ∧ w'.cell? ⟨g6, 1, none⟩ = some (.bool false) ∧ w'.cell? ⟨g6, 2, none⟩ = some (.int .i64 pq) ∧ w'.cell? ⟨g6, 3, none⟩ = some (.int .i64 px) ∧ w'.cell? ⟨g6, 4, none⟩ = some (.int .i64 py) ∧ g6 < w'.heap.size ∧ bp < w'.heap.size ∧ bs < w'.heap.size) (by kernel_rfl) (hS _ (Later.refl _).drew) (fun hHeld => ?_)
                      refine take_at (i := 0) (d := 238) (v := ?_) rfl rfl (by kernel_rfl) (by kernel_rfl) (by kernel_rfl) (fun _ _ _ h => h) (by rfl) ?_ (by assumption) ?_
                      rotate_left
                      · (intro w hSw; (try dsimp only at hSw); go_simp; (try with_reducible rfl))
                      simp only [Act.put, List.setIfInBounds_toArray, List.set_cons_zero, List.set_cons_succ]
                      refine take_at (i := 1) (d := 239) (v := ?_) rfl rfl (by kernel_rfl) (by kernel_rfl) (by kernel_rfl) (fun _ _ _ h => h) (by rfl) ?_ (by assumption) ?_
                      rotate_left
                      · (intro w hSw; (try dsimp only at hSw); go_simp; (try with_reducible rfl))
                      simp only [Act.put, List.setIfInBounds_toArray, List.set_cons_zero, List.set_cons_succ]
                      refine take_at (i := 2) (d := 240) (v := ?_) rfl rfl (by kernel_rfl) (by kernel_rfl) (by kernel_rfl) (fun _ _ _ h => h) (by rfl) ?_ (by assumption) ?_
                      rotate_left
                      · (intro w hSw; (try dsimp only at hSw); go_simp; (try with_reducible rfl))
                      simp only [Act.put, List.setIfInBounds_toArray, List.set_cons_zero, List.set_cons_succ]
                      refine take_at (i := 3) (d := 241) (v := ?_) rfl rfl (by kernel_rfl) (by kernel_rfl) (by kernel_rfl) (fun _ _ _ h => h) (by rfl) ?_ (by assumption) ?_
                      rotate_left
                      · (intro w hSw; (try dsimp only at hSw); go_simp; (try with_reducible rfl))
                      simp only [Act.put, List.setIfInBounds_toArray, List.set_cons_zero, List.set_cons_succ]
                      refine take_at (i := 4) (d := 242) (v := ?_) rfl rfl (by kernel_rfl) (by kernel_rfl) (by kernel_rfl) (fun _ _ _ h => h) (by rfl) ?_ (by assumption) ?_
                      rotate_left
                      · (intro w hSw; (try dsimp only at hSw); go_simp; (try with_reducible rfl))
                      simp only [Act.put, List.setIfInBounds_toArray, List.set_cons_zero, List.set_cons_succ]
                      refine take_at (i := 5) (d := 243) (v := ?_) rfl rfl (by kernel_rfl) (by kernel_rfl) (by kernel_rfl) (fun _ _ _ h => h) (by rfl) ?_ (by assumption) ?_
                      rotate_left
                      · (intro w hSw; (try dsimp only at hSw); go_simp; (try with_reducible rfl))
                      simp only [Act.put, List.setIfInBounds_toArray, List.set_cons_zero, List.set_cons_succ]
                      refine take_at (i := 6) (d := 244) (v := ?_) rfl rfl (by kernel_rfl) (by kernel_rfl) (by kernel_rfl) (fun _ _ _ h => h) (by rfl) ?_ (by assumption) ?_
                      rotate_left
                      · (intro w hSw; (try dsimp only at hSw); go_simp; (try with_reducible rfl))
                      simp only [Act.put, List.setIfInBounds_toArray, List.set_cons_zero, List.set_cons_succ]
                      refine take_at (i := 7) (d := 245) (v := ?_) rfl rfl (by kernel_rfl) (by kernel_rfl) (by kernel_rfl) (fun _ _ _ h => h) (by rfl) ?_ (by assumption) ?_
                      rotate_left
                      · (intro w hSw; (try dsimp only at hSw); go_simp; (try with_reducible rfl))
                      simp only [Act.put, List.setIfInBounds_toArray, List.set_cons_zero, List.set_cons_succ]
                      refine take_at (i := 8) (d := 246) (v := ?_) rfl rfl (by kernel_rfl) (by kernel_rfl) (by kernel_rfl) (fun _ _ _ h => h) (by rfl) ?_ (by assumption) ?_
                      rotate_left
                      · (intro w hSw; (try dsimp only at hSw); go_simp; (try with_reducible rfl))
                      simp only [Act.put, List.setIfInBounds_toArray, List.set_cons_zero, List.set_cons_succ]
                      refine take_at (i := 9) (d := 247) (v := ?_) rfl rfl (by kernel_rfl) (by kernel_rfl) (by kernel_rfl) (fun _ _ _ h => h) (by rfl) ?_ (by assumption) ?_
                      rotate_left
                      · (intro w hSw; (try dsimp only at hSw); go_simp; (try with_reducible rfl))
                      simp only [Act.put, List.setIfInBounds_toArray, List.set_cons_zero, List.set_cons_succ]
                      refine take_at (i := 10) (d := 248) (v := ?_) rfl rfl (by kernel_rfl) (by kernel_rfl) (by kernel_rfl) (fun _ _ _ h => h) (by rfl) ?_ (by assumption) ?_
                      rotate_left
                      · (intro w hSw; (try dsimp only at hSw); go_simp; (try with_reducible rfl))
                      simp only [Act.put, List.setIfInBounds_toArray, List.set_cons_zero, List.set_cons_succ]
                      refine take_at (i := 11) (d := 249) (v := ?_) rfl rfl (by kernel_rfl) (by kernel_rfl) (by kernel_rfl) (fun _ _ _ h => h) (by rfl) ?_ (by assumption) ?_
                      rotate_left
                      · (intro w hSw; (try dsimp only at hSw); go_simp; (try with_reducible rfl))
                      simp only [Act.put, List.setIfInBounds_toArray, List.set_cons_zero, List.set_cons_succ]
                      refine take_at (i := 12) (d := 250) (v := ?_) rfl rfl (by kernel_rfl) (by kernel_rfl) (by kernel_rfl) (fun _ _ _ h => h) (by rfl) ?_ (by assumption) ?_
                      rotate_left
                      · (intro w hSw; (try dsimp only at hSw); go_simp; (try with_reducible rfl))
                      simp only [Act.put, List.setIfInBounds_toArray, List.set_cons_zero, List.set_cons_succ]
                      refine take_at (i := 13) (d := 251) (v := ?_) rfl rfl (by kernel_rfl) (by kernel_rfl) (by kernel_rfl) (fun _ _ _ h => h) (by rfl) ?_ (by assumption) ?_
                      rotate_left
                      · (intro w hSw; (try dsimp only at hSw); go_simp; (try with_reducible rfl))
                      simp only [Act.put, List.setIfInBounds_toArray, List.set_cons_zero, List.set_cons_succ]
                      refine take_at (i := 15) (d := 253) (v := ?_) rfl rfl (by kernel_rfl) (by kernel_rfl) (by kernel_rfl) (fun _ _ _ h => h) (by rfl) ?_ (by assumption) ?_
                      rotate_left
                      · (intro w hSw; (try dsimp only at hSw); go_simp; (try with_reducible rfl))
                      simp only [Act.put, List.setIfInBounds_toArray, List.set_cons_zero, List.set_cons_succ]
                      refine take_at (i := 16) (d := 254) (v := ?_) rfl rfl (by kernel_rfl) (by kernel_rfl) (by kernel_rfl) (fun _ _ _ h => h) (by rfl) ?_ (by assumption) ?_
                      rotate_left
                      · (intro w hSw; (try dsimp only at hSw); go_simp; (try with_reducible rfl))
                      simp only [Act.put, List.setIfInBounds_toArray, List.set_cons_zero, List.set_cons_succ]
                      refine take_at (i := 17) (d := 255) (v := ?_) rfl rfl (by kernel_rfl) (by kernel_rfl) (by kernel_rfl) (fun _ _ _ h => h) (by rfl) ?_ (by assumption) ?_
                      rotate_left
                      · (intro w hSw; (try dsimp only at hSw); go_simp; (try with_reducible rfl))
                      simp only [Act.put, List.setIfInBounds_toArray, List.set_cons_zero, List.set_cons_succ]
                      refine take_at (i := 18) (d := 256) (v := ?_) rfl rfl (by kernel_rfl) (by kernel_rfl) (by kernel_rfl) (fun _ _ _ h => h) (by rfl) ?_ (by assumption) ?_
                      rotate_left
                      · (intro w hSw; (try dsimp only at hSw); go_simp; (try with_reducible rfl))
                      simp only [Act.put, List.setIfInBounds_toArray, List.set_cons_zero, List.set_cons_succ]
                      refine take_at (i := 19) (d := 257) (v := ?_) rfl rfl (by kernel_rfl) (by kernel_rfl) (by kernel_rfl) (fun _ _ _ h => h) (by rfl) ?_ (by assumption) ?_
                      rotate_left
                      · (intro w hSw; (try dsimp only at hSw); go_simp; (try with_reducible rfl))
                      simp only [Act.put, List.setIfInBounds_toArray, List.set_cons_zero, List.set_cons_succ]
                      refine take_at (i := 20) (d := 258) (v := ?_) rfl rfl (by kernel_rfl) (by kernel_rfl) (by kernel_rfl) (fun _ _ _ h => h) (by rfl) ?_ (by assumption) ?_
                      rotate_left
                      · (intro w hSw; (try dsimp only at hSw); go_simp; (try with_reducible rfl))
                      simp only [Act.put, List.setIfInBounds_toArray, List.set_cons_zero, List.set_cons_succ]
                      refine take_at (i := 21) (d := 259) (v := ?_) rfl rfl (by kernel_rfl) (by kernel_rfl) (by kernel_rfl) (fun _ _ _ h => h) (by rfl) ?_ (by assumption) ?_
                      rotate_left
                      · (intro w hSw; (try dsimp only at hSw); go_simp; (try with_reducible rfl))
                      simp only [Act.put, List.setIfInBounds_toArray, List.set_cons_zero, List.set_cons_succ]
                      refine take_at (i := 22) (d := 260) (v := ?_) rfl rfl (by kernel_rfl) (by kernel_rfl) (by kernel_rfl) (fun _ _ _ h => h) (by rfl) ?_ (by assumption) ?_
                      rotate_left
                      · (intro w hSw; (try dsimp only at hSw); go_simp; (try with_reducible rfl))
                      simp only [Act.put, List.setIfInBounds_toArray, List.set_cons_zero, List.set_cons_succ]
                      refine take_at (i := 24) (d := 262) (v := ?_) rfl rfl (by kernel_rfl) (by kernel_rfl) (by kernel_rfl) (fun _ _ _ h => h) (by rfl) ?_ (by assumption) ?_
                      rotate_left
                      · (intro w hSw; (try dsimp only at hSw); go_simp; (try with_reducible rfl))
                      simp only [Act.put, List.setIfInBounds_toArray, List.set_cons_zero, List.set_cons_succ]
                      refine take_at (i := 25) (d := 263) (v := ?_) rfl rfl (by kernel_rfl) (by kernel_rfl) (by kernel_rfl) (fun _ _ _ h => h) (by rfl) ?_ (by assumption) ?_
                      rotate_left
                      · (intro w hSw; (try dsimp only at hSw); go_simp; (try with_reducible rfl))
                      simp only [Act.put, List.setIfInBounds_toArray, List.set_cons_zero, List.set_cons_succ]
                      refine take_at (i := 26) (d := 264) (v := ?_) rfl rfl (by kernel_rfl) (by kernel_rfl) (by kernel_rfl) (fun _ _ _ h => h) (by rfl) ?_ (by assumption) ?_
                      rotate_left
                      · (intro w hSw; (try dsimp only at hSw); go_simp; (try with_reducible rfl))
                      simp only [Act.put, List.setIfInBounds_toArray, List.set_cons_zero, List.set_cons_succ]
                      refine take_at (i := 27) (d := 265) (v := ?_) rfl rfl (by kernel_rfl) (by kernel_rfl) (by kernel_rfl) (fun _ _ _ h => h) (by rfl) ?_ (by assumption) ?_
                      rotate_left
                      · (intro w hSw; (try dsimp only at hSw); go_simp; (try with_reducible rfl))
                      simp only [Act.put, List.setIfInBounds_toArray, List.set_cons_zero, List.set_cons_succ]
                      refine take_at (i := 28) (d := 266) (v := ?_) rfl rfl (by kernel_rfl) (by kernel_rfl) (by kernel_rfl) (fun _ _ _ h => h) (by rfl) ?_ (by assumption) ?_
                      rotate_left
                      · (intro w hSw; (try dsimp only at hSw); go_simp; (try with_reducible rfl))
                      simp only [Act.put, List.setIfInBounds_toArray, List.set_cons_zero, List.set_cons_succ]
                      refine take_at (i := 29) (d := 267) (v := ?_) rfl rfl (by kernel_rfl) (by kernel_rfl) (by kernel_rfl) (fun _ _ _ h => h) (by rfl) ?_ (by assumption) ?_
                      rotate_left
                      · (intro w hSw; (try dsimp only at hSw); go_simp; (try with_reducible rfl))
                      simp only [Act.put, List.setIfInBounds_toArray, List.set_cons_zero, List.set_cons_succ]
                      refine take_at (i := 30) (d := 268) (v := ?_) rfl rfl (by kernel_rfl) (by kernel_rfl) (by kernel_rfl) (fun _ _ _ h => h) (by rfl) ?_ (by assumption) ?_
                      rotate_left
                      · (intro w hSw; (try dsimp only at hSw); go_simp; (try with_reducible rfl))
                      simp only [Act.put, List.setIfInBounds_toArray, List.set_cons_zero, List.set_cons_succ]
                      refine take_at (i := 31) (d := 269) (v := ?_) rfl rfl (by kernel_rfl) (by kernel_rfl) (by kernel_rfl) (fun _ _ _ h => h) (by rfl) ?_ (by assumption) ?_
                      rotate_left
                      · (intro w hSw; (try dsimp only at hSw); go_simp; (try with_reducible rfl))
                      simp only [Act.put, List.setIfInBounds_toArray, List.set_cons_zero, List.set_cons_succ]
                      refine take_at (i := 32) (d := 270) (v := ?_) rfl rfl (by kernel_rfl) (by kernel_rfl) (by kernel_rfl) (fun _ _ _ h => h) (by rfl) ?_ (by assumption) ?_
                      rotate_left
                      · (intro w hSw; (try dsimp only at hSw); go_simp; (try with_reducible rfl))
                      simp only [Act.put, List.setIfInBounds_toArray, List.set_cons_zero, List.set_cons_succ]
                      refine take_at (i := 33) (d := 271) (v := ?_) rfl rfl (by kernel_rfl) (by kernel_rfl) (by kernel_rfl) (fun _ _ _ h => h) (by rfl) ?_ (by assumption) ?_
                      rotate_left
                      · (intro w hSw; (try dsimp only at hSw); go_simp; (try with_reducible rfl))
                      simp only [Act.put, List.setIfInBounds_toArray, List.set_cons_zero, List.set_cons_succ]
                      refine take_at (i := 34) (d := 272) (v := ?_) rfl rfl (by kernel_rfl) (by kernel_rfl) (by kernel_rfl) (fun _ _ _ h => h) (by rfl) ?_ (by assumption) ?_
                      rotate_left
                      · (intro w hSw; (try dsimp only at hSw); go_simp; (try with_reducible rfl))
                      simp only [Act.put, List.setIfInBounds_toArray, List.set_cons_zero, List.set_cons_succ]
                      refine take_at (i := 35) (d := 273) (v := ?_) rfl rfl (by kernel_rfl) (by kernel_rfl) (by kernel_rfl) (fun _ _ _ h => h) (by rfl) ?_ (by assumption) ?_
                      rotate_left
                      · (intro w hSw; (try dsimp only at hSw); go_simp; (try with_reducible rfl))
                      simp only [Act.put, List.setIfInBounds_toArray, List.set_cons_zero, List.set_cons_succ]
                      refine take_at (i := 36) (d := 274) (v := ?_) rfl rfl (by kernel_rfl) (by kernel_rfl) (by kernel_rfl) (fun _ _ _ h => h) (by rfl) ?_ (by assumption) ?_
                      rotate_left
                      · (intro w hSw; (try dsimp only at hSw); go_simp; (try with_reducible rfl))
                      simp only [Act.put, List.setIfInBounds_toArray, List.set_cons_zero, List.set_cons_succ]
                      refine take_at (i := 37) (d := 275) (v := ?_) rfl rfl (by kernel_rfl) (by kernel_rfl) (by kernel_rfl) (fun _ _ _ h => h) (by rfl) ?_ (by assumption) ?_
                      rotate_left
                      · (intro w hSw; (try dsimp only at hSw); go_simp; (try with_reducible rfl))
                      simp only [Act.put, List.setIfInBounds_toArray, List.set_cons_zero, List.set_cons_succ]
                      refine take_at (i := 38) (d := 276) (v := ?_) rfl rfl (by kernel_rfl) (by kernel_rfl) (by kernel_rfl) (fun _ _ _ h => h) (by rfl) ?_ (by assumption) ?_
                      rotate_left
                      · (intro w hSw; (try dsimp only at hSw); go_simp; (try with_reducible rfl))
                      simp only [Act.put, List.setIfInBounds_toArray, List.set_cons_zero, List.set_cons_succ]
                      refine take_at (i := 39) (d := 277) (v := ?_) rfl rfl (by kernel_rfl) (by kernel_rfl) (by kernel_rfl) (fun _ _ _ h => h) (by rfl) ?_ (by assumption) ?_
                      rotate_left
                      · (intro w hSw; (try dsimp only at hSw); go_simp; (try with_reducible rfl))
                      simp only [Act.put, List.setIfInBounds_toArray, List.set_cons_zero, List.set_cons_succ]
                      refine take_at (i := 40) (d := 278) (v := ?_) rfl rfl (by kernel_rfl) (by kernel_rfl) (by kernel_rfl) (fun _ _ _ h => h) (by rfl) ?_ (by assumption) ?_
                      rotate_left
                      · (intro w hSw; (try dsimp only at hSw); go_simp; (try with_reducible rfl))
                      simp only [Act.put, List.setIfInBounds_toArray, List.set_cons_zero, List.set_cons_succ]
                      refine take_at (i := 41) (d := 279) (v := ?_) rfl rfl (by kernel_rfl) (by kernel_rfl) (by kernel_rfl) (fun _ _ _ h => h) (by rfl) ?_ (by assumption) ?_
                      rotate_left
                      · (intro w hSw; (try dsimp only at hSw); go_simp; (try with_reducible rfl))
                      simp only [Act.put, List.setIfInBounds_toArray, List.set_cons_zero, List.set_cons_succ]
                      refine take_at (i := 42) (d := 280) (v := ?_) rfl rfl (by kernel_rfl) (by kernel_rfl) (by kernel_rfl) (fun _ _ _ h => h) (by rfl) ?_ (by assumption) ?_
                      rotate_left
                      · (intro w hSw; (try dsimp only at hSw); go_simp; (try with_reducible rfl))
                      simp only [Act.put, List.setIfInBounds_toArray, List.set_cons_zero, List.set_cons_succ]
                      refine take_at (i := 43) (d := 281) (v := ?_) rfl rfl (by kernel_rfl) (by kernel_rfl) (by kernel_rfl) (fun _ _ _ h => h) (by rfl) ?_ (by assumption) ?_
                      rotate_left
                      · (intro w hSw; (try dsimp only at hSw); go_simp; (try with_reducible rfl))
                      simp only [Act.put, List.setIfInBounds_toArray, List.set_cons_zero, List.set_cons_succ]
                      refine take_at (i := 44) (d := 282) (v := ?_) rfl rfl (by kernel_rfl) (by kernel_rfl) (by kernel_rfl) (fun _ _ _ h => h) (by rfl) ?_ (by assumption) ?_
                      rotate_left
                      · (intro w hSw; (try dsimp only at hSw); go_simp; (try with_reducible rfl))
                      simp only [Act.put, List.setIfInBounds_toArray, List.set_cons_zero, List.set_cons_succ]
                      clear hHeld
                      as_aux_lemma =>
                      refine call_at (i := 14) (d := 252) (f := 17) (args := #[.agg #[.bool fi, .int .i64 iq], .slice t.pa t.ps.length t.pc]) (by kernel_rfl) rfl rfl (by rfl) (by go_simp) ?_
                      refine (HT1.out _ (hww.trans (Later.refl _).drew)).mono ?_
                      rintro e w17 ⟨A17, c17, rfl, hc17, _, hp17, hb17⟩
                      have h17 : Later w16 w17 := (Later.refl _).drew.trans hb17
                      refine ⟨_, rfl, hS _ h17, fun hHeld => ?_⟩
                      simp only [Act.put, List.setIfInBounds_toArray, List.set_cons_zero, List.set_cons_succ]
                      clear hHeld
                      refine call_at (i := 23) (d := 261) (f := 17) (args := #[.agg #[.bool false, .int .i64 pq], .slice s.pa s.ps.length s.pc]) (by kernel_rfl) rfl rfl (by rfl) (by go_simp) ?_
                      refine (HT2.out _ (hww.trans h17)).mono ?_
                      rintro e w18 ⟨A18, c18, rfl, hc18, _, hp18, hb18⟩
                      have h18 := h17.trans hb18
                      refine ⟨_, rfl, hS _ h18, fun hHeld => ?_⟩
                      simp only [Act.put, List.setIfInBounds_toArray, List.set_cons_zero, List.set_cons_succ]
                      clear hHeld
                      refine call_at (i := 45) (d := 283) (f := 16) (args := #[.slice A17 ti.length c17, .slice A18 ts.length c18, .agg #[.int .i64 (px - ix), .int .i64 (py - iy)]]) (by kernel_rfl) rfl rfl (by rfl) (by go_simp) ?_
                      refine (HBi.out A17 A18 c17 c18 w18 hc17 hc18 (hp17.later hb18) hp18).mono ?_
                      rintro e w19 ⟨rfl, hb19⟩
                      have h19 := h18.trans hb19
                      refine ⟨_, rfl, hS _ h19, fun hHeld => ?_⟩
                      simp only [Act.put, List.setIfInBounds_toArray, List.set_cons_zero, List.set_cons_succ]
                      refine take_at (i := 46) (d := 237) (v := ?_) rfl rfl (by kernel_rfl) (by kernel_rfl) (by kernel_rfl) (fun _ _ _ h => h) (by rfl) ?_ (by assumption) ?_
                      rotate_left
                      · (intro w hSw; (try dsimp only at hSw); go_simp; (try with_reducible rfl))
                      simp only [Act.put, List.setIfInBounds_toArray, List.set_cons_zero, List.set_cons_succ]
                      refine take_at (i := 47) (d := 284) (v := ?_) rfl rfl (by kernel_rfl) (by kernel_rfl) (by kernel_rfl) (fun _ _ _ h => h) (by rfl) ?_ (by assumption) ?_
                      rotate_left
                      · (intro w hSw; (try dsimp only at hSw); go_simp; (try with_reducible rfl))
                      simp only [Act.put, List.setIfInBounds_toArray, List.set_cons_zero, List.set_cons_succ]
                      refine take_at (i := 48) (d := 285) (v := ?_) rfl rfl (by kernel_rfl) (by kernel_rfl) (by kernel_rfl) (fun _ _ _ h => h) (by rfl) ?_ (by assumption) ?_
                      rotate_left
                      · (intro w hSw; (try dsimp only at hSw); go_simp; (try with_reducible rfl))
                      simp only [Act.put, List.setIfInBounds_toArray, List.set_cons_zero, List.set_cons_succ]
                      refine take_at (i := 49) (d := 26) (v := ?_) rfl rfl (by kernel_rfl) (by kernel_rfl) (by kernel_rfl) (fun _ _ _ h => h) (by rfl) ?_ (by assumption) ?_
                      rotate_left
                      · (intro w hSw; (try dsimp only at hSw); go_simp; (try with_reducible rfl))
                      simp only [Act.put, List.setIfInBounds_toArray, List.set_cons_zero, List.set_cons_succ]
                      refine take_at (i := 50) (d := 27) (v := ?_) rfl rfl (by kernel_rfl) (by kernel_rfl) (by kernel_rfl) (fun _ _ _ h => h) (by rfl) ?_ (by assumption) ?_
                      rotate_left
                      · (intro w hSw; (try dsimp only at hSw); go_simp; (try with_reducible rfl))
                      simp only [Act.put, List.setIfInBounds_toArray, List.set_cons_zero, List.set_cons_succ]
                      clear hHeld hS
                      as_aux_lemma =>
                      refine wpAnyH_done (by kernel_rfl) ?_ _
                      go_wp2_with fail
                      go_roundw
                      case rel => exact ⟨i + 1, by omega, by go_num, hbi.trans (hiw.trans h19)⟩
                      case measure => simp [intOf]; omega
                    · have hke3 : i = k := by omega
                      subst hke3
                      go_wp2_with fail
                      go_roundw
                      case rel => exact ⟨i + 1, a + max ar (-ar), by omega, rfl, by go_num, Lib.hid (by rw [Htk.out, area_snoc, ← Ha.out, Har.out]), h5i⟩
                      case measure => simp [intOf]; omega
            · have hke2 : k = puts.length := by omega
              subst hke2
              rw [List.take_length] at Ha
              have hA := HN.out.area
              rw [← Ha.out] at hA
              have hbd : 1 ≤ bw ∧ bw ≤ 1048576 := HN.out.bd
              have hn0 := HN.out.n0
              have hn1 : n ≤ 1048576 := by
                have hnl : n ≤ max bl 0 := HN.out.nl
                omega
              have b0 : wr.cell? ⟨g, 0, none⟩ = some (.int .i64 bl) := B5.cell 0
              have b1 : wr.cell? ⟨g, 1, none⟩ = some (.int .i64 bw) := B5.cell 1
              have b2 : wr.cell? ⟨g, 2, none⟩ = some (.int .i64 brx) := B5.cell 2
              have b3 : wr.cell? ⟨g, 3, none⟩ = some (.int .i64 bry) := B5.cell 3
              have zb4 := B5.lt
              have m1 := mul_bd (a := n) (b := bw) 1048576 (by omega) (by omega)
              have v1 : IntKind.i64.wrap (2 * n) = 2 * n := IntWalk.i64_in _ (by omega)
              have hmx : max bw 0 = bw := by omega
              have v2 : IntKind.i64.wrap (2 * n * bw) = 2 * n * bw := IntWalk.i64_in _ (by rw [Int.mul_assoc]; omega)
              have d1 : decide (a ≤ 2 * n * bw) = true := by rw [decide_eq_true_iff, Int.mul_assoc]; exact hA
              go_wp2_with (go_at_call 5; (with_reducible refine (HX.out _).mono ?_); rintro e w7 ⟨rfl, hb7⟩)
              go_ret
              exact ⟨rfl, hlr.trans hb7⟩
        · obtain ⟨n1, n2⟩ := HSn.out he0
          subst n1 n2
          have he : (e0 != 0) = true := by simpa using he0
          simp only [List.length_nil] at HBe2
          go_upto_region 9 with (go_at_call 6; (with_reducible refine (HBe2.out _ hlr).mono ?_); rintro e w3 ⟨A3, c3, rfl, _, _, hb3⟩)
          go_wp2_with (go_at_call 5; (with_reducible refine (HX.out _).mono ?_); rintro e w4 ⟨rfl, hb4⟩)
          go_ret
          exact ⟨rfl, hlr.trans (hb3.trans hb4)⟩
  · have d4 : decide ((l.length : Int) > 4) = true := by simp; omega
    go_wp2_with (go_at_call 5; (with_reducible refine (HX.out _).mono ?_); rintro e w2 ⟨rfl, hb2⟩)
    go_ret
    exact ⟨rfl, hl1.trans hb2⟩
end Go.Proofs.YtdhakoecjmaebaaGreat
