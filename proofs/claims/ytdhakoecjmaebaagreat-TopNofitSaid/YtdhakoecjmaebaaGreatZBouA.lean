/-
  The walk of search.narrowest.
-/
import Derived.Test.YtdhakoecjmaebaaGreatZRunA
import Derived.Test.YtdhakoecjmaebaaGreatZAreP
namespace Go.Proofs.YtdhakoecjmaebaaGreat
open Go.RowKit Go.Lib
set_option linter.unusedSimpArgs false
set_option linter.unusedVariables false

def nLoop (ps : List Pt) (qs : List Int) (i : Nat) (m : Int) : Int × Int := if narrowE ps qs ≠ 0 then (0, narrowE ps qs) else (narrowGo ps qs i m, 0)
theorem nLoop_cons (ps : List Pt) (q : Int) (qs : List Int) (i : Nat) (m : Int) : nLoop ps (q :: qs) i m = if checkI (turnPs false q ps) ≠ 0 then (0, checkI (turnPs false q ps)) else nLoop ps qs (i + 1) (if i = 0 ∨ (hiOf (turnPs false q ps)).x - (loOf (turnPs false q ps)).x < m then (hiOf (turnPs false q ps)).x - (loOf (turnPs false q ps)).x else m) := by
  unfold nLoop
  rw [narrowE, narrowGo]
  by_cases h : checkI (turnPs false q ps) ≠ 0
  · rw [if_pos h, if_pos h, if_pos h]
  · rw [if_neg h, if_neg h]
theorem narrow_loop (s : Sh) (h : checkI s.ps = 0) (ht : turnsR s.gr ≠ []) : narrowR s = nLoop s.ps (turnsR s.gr) 0 0 := by
  unfold narrowR nLoop
  rw [if_neg (by simpa using h), if_neg ht]
set_option maxHeartbeats 8000000 in
set_option maxRecDepth 100000 in
theorem search_narrowest (s : Sh) (w : World) (hp : Pts w s.pa s.ps) (hc : s.ps.length ≤ s.pc) (hn : s.ps.length ≤ 65536) :
    Calls Tryz.prog 25 #[s.agg] w (Ret (.tuple #[.int .i64 (narrowR s).1, .int .i64 (narrowR s).2]) w) := by
  have HC := Lib.hid (fun W (hW : Later w W) => polygon_Check s.pa s.pc s.ps W (by omega) hc (hp.later hW))
  have HA := Lib.hid (fun W => turn_All s.gr W)
  have HN1 := Lib.hid (fun (h : checkI s.ps ≠ 0) => show narrowR s = (0, checkI s.ps) from if_pos h)
  have HN2 := Lib.hid (fun (h : checkI s.ps = 0) (h2 : turnsR s.gr = []) => show narrowR s = (0, 12) by unfold narrowR; rw [if_neg (by simpa using h), if_pos h2])
  have HN3 := Lib.hid (narrow_loop s)
  have HT := Lib.hid (fun (q : Int) (h : checkI s.ps = 0) W (hW : Later w W) => turn_Poly false q s.pa s.pc s.ps W hn (hp.later hW) (near_of_check h))
  have hR4 : (turnsR s.gr).length ≤ 4 := List.length_filter_le _ _
  have HT6 := Lib.hid (fun q => show (turnPs false q s.ps).length = s.ps.length from turnPs_len _ _ _)
  have HLc := Lib.hid (fun q qs i m => nLoop_cons s.ps q qs i m)
  have HL0 := Lib.hid (fun (i : Nat) (m : Int) => show nLoop s.ps [] i m = (m, 0) from rfl)
  generalize narrowR s = R at *
  generalize turnsR s.gr = ts at *
  generalize nLoop s.ps = nl at *
  unfold Sh.agg
  go_enter Tryz.func25, Tryz.ntmps25
  obtain ⟨spa, spc, sps, sgr, smt, sax, say⟩ := s
  simp only [] at *
  go_upto_region 1 with fail
  refine name_world (fun W1 hW1 => ?_)
  have hl1 : Later w W1 := by rw [hW1]; exact (by repeat' (with_reducible first | exact Later.refl _ | assumption | refine Later.drew ?_ | refine Later.drewN ?_ _ | refine Later.alloc ?_ _ | refine Later.put ?_ (by omega) _ | refine Later.trans ?_ (by assumption)))
  have B1 : Blk W1 w.heap.size 31 #[.slice spa sps.length spc, .int .i64 sgr, .bool smt, .int .i64 sax, .int .i64 say] := by rw [hW1]; exact (by repeat' (with_reducible first | assumption | (refine Blk.newAt ?_; simp; done) | refine Blk.alloc ?_ _ | refine Blk.drew ?_ | refine Blk.drewN ?_ _ | refine Blk.later ?_ (by assumption)))
  clear hW1
  obtain ⟨g, hg⟩ : ∃ g, g = w.heap.size := ⟨_, rfl⟩
  rw [← hg] at B1
  rw [← hg]
  clear hg
  have k0 : W1.cell? ⟨g, 0, none⟩ = some (.slice spa sps.length spc) := B1.cell 0
  have k1 : W1.cell? ⟨g, 1, none⟩ = some (.int .i64 sgr) := B1.cell 1
  have z0 := B1.lt
  by_cases hck : checkI sps = 0
  · rw [hck] at HC
    go_upto_region 4 with (go_at_call 27; (with_reducible refine (HC.out _ hl1).mono ?_); rintro e w2 ⟨rfl, hb2⟩)
    have hl2 := hl1.trans hb2
    have C1 := B1.later hb2
    clear k0 k1 z0 B1 hl1 hb2
    have k0 : w2.cell? ⟨g, 0, none⟩ = some (.slice spa sps.length spc) := C1.cell 0
    have k1 : w2.cell? ⟨g, 1, none⟩ = some (.int .i64 sgr) := C1.cell 1
    have z0 := C1.lt
    go_upto_region 5 with (go_at_call 50; (with_reducible refine (HA.out _).mono ?_); rintro e w5 ⟨v5, rfl, ho5, hb5⟩; obtain ⟨A5, c5, rfl, _, _, hx5⟩ := ho5.form tn2_len)
    have hl5 := hl2.trans hb5
    have D1 := C1.later hb5
    clear k0 k1 z0 C1
    by_cases hts : ts = []
    · subst hts
      go_wp2
      refine bodyPost_ret (v := .tuple #[.int .i64 0, .int .i64 12]) (by simp [results, Tryz.results25, go_sem]) rfl ⟨by rw [HN2.out hck (by simp)], hl5⟩
    · have hlp : 0 < ts.length := List.length_pos_iff.2 hts
      have d5 : ((ts.length : Int) == 0) = false := by simp; omega
      go_upto_region 9 with fail
      have Hrow := Lib.hid (show ∀ k (hk : k < ts.length), ∃ bt, A5 = some ⟨bt, 0, none⟩ ∧ w5.cell? ⟨bt, k * 2, none⟩ = some (.bool false) ∧ w5.cell? ⟨bt, k * 2 + 1, none⟩ = some (.int .i64 ts[k]) from fun k hk => by
        obtain ⟨bt, e, h1, h2, _, h4⟩ := hx5 (by omega)
        have q0 := h4 k _ (List.getElem?_eq_getElem hk) 0 _ rfl
        have q1 := h4 k _ (List.getElem?_eq_getElem hk) 1 _ rfl
        rw [Nat.zero_add] at q0 q1
        exact ⟨bt, e, q0, q1⟩)
      clear hx5 ho5 d5 HC HA hb5
      have HR := Lib.hid (HN3.out hck hts)
      have HT2 := Lib.hid (fun q => HT.out q hck)
      clear HN1 HN2 HN3 HT hts
      go_loopw [6, 25] (fun mv iv wr => ∃ (k : Nat) (m : Int), k ≤ ts.length ∧ mv = .int .i64 m ∧ iv = .int .i64 k ∧ Hid (R = nl (ts.drop k) k m) ∧ Later w5 wr) (fun _ iv _ => ts.length - (intOf iv).toNat)
      case atStart => exact ⟨0, 0, by omega, rfl, rfl, HR, Later.refl _⟩
      case round =>
        obtain ⟨k, m, hk, rfl, rfl, HRk, hbr⟩ := hrel
        have hlr := hl5.trans hbr
        by_cases hlt : k < ts.length
        · obtain ⟨bt, rfl, q0, q1⟩ := Hrow.out k hlt
          have q0 := hbr.cell q0
          have q1 := hbr.cell q1
          have zbt := World.block_lt_of_cell? _ _ q0
          have Hdr := Lib.hid (List.drop_eq_getElem_cons hlt)
          generalize ts[k] = q at *
          have HLk := Lib.hid (HLc.out q (ts.drop (k + 1)) k m)
          have HTk := Lib.hid (HT2.out q)
          have ht6 : (turnPs false q sps).length ≤ 65536 := by rw [HT6.out q]; exact hn
          generalize turnPs false q sps = t at *
          unfold RetPts at HTk
          have E1 := D1.later hbr
          have k0 : wr.cell? ⟨g, 0, none⟩ = some (.slice spa sps.length spc) := E1.cell 0
          have z0 := E1.lt
          have hk0 : (0 : Int) ≤ (k : Int) := by omega
          have hk1 : (k : Int) < (ts.length : Int) := by omega
          go_upto_region 11 with fail
          refine name_world (fun W8 hW8 => ?_)
          have hb8 : Later wr W8 := by rw [hW8]; exact (by repeat' (with_reducible first | exact Later.refl _ | assumption | refine Later.drew ?_ | refine Later.drewN ?_ _ | refine Later.alloc ?_ _ | refine Later.put ?_ (by omega) _ | refine Later.trans ?_ (by assumption)))
          have Dt : Blk W8 wr.heap.size 42 #[.bool false, .int .i64 q] := by rw [hW8]; exact (by repeat' (with_reducible first | assumption | (refine Blk.newAt ?_; simp; done) | refine Blk.alloc ?_ _ | refine Blk.drew ?_ | refine Blk.drewN ?_ _ | refine Blk.later ?_ (by assumption)))
          clear hW8 q0 q1 zbt k0 z0
          obtain ⟨gt, hgt⟩ : ∃ g, g = wr.heap.size := ⟨_, rfl⟩
          rw [← hgt] at Dt
          rw [← hgt]
          clear hgt
          have F1 := E1.later hb8
          have k0 : W8.cell? ⟨g, 0, none⟩ = some (.slice spa sps.length spc) := F1.cell 0
          have z0 := F1.lt
          have q0 : W8.cell? ⟨gt, 0, none⟩ = some (.bool false) := Dt.cell 0
          have q1 : W8.cell? ⟨gt, 1, none⟩ = some (.int .i64 q) := Dt.cell 1
          have zt := Dt.lt
          have hl8 := hlr.trans hb8
          by_cases hct : checkI t = 0
          · have HRn := Lib.hid (show R = nl (ts.drop (k + 1)) (k + 1) (if k = 0 ∨ (hiOf t).x - (loOf t).x < m then (hiOf t).x - (loOf t).x else m) by rw [HRk.out, Hdr.out, HLk.out, if_neg (by simpa using hct)])
            go_upto_region 12 with (first | (go_at_call 17; (with_reducible refine (HTk.out _ hl8).mono ?_); rintro e w9 ⟨A6, c6, rfl, hc6, _, p9, hb9⟩; have HBx := Lib.hid (polygon_Box_ok A6 c6 t w9 (by omega) hc6 p9 hct)) | (go_at_call 10; (with_reducible refine HBx.out.mono ?_); rintro e w10 ⟨rfl, hb10⟩))
            have hl10 : Later w w10 := (hl8.trans hb9).trans hb10
            have F2 := (F1.later hb9).later hb10
            refine name_world (fun W11 hW11 => ?_)
            have hb11 : Later w10 W11 := by rw [hW11]; exact (by repeat' (with_reducible first | exact Later.refl _ | assumption | refine Later.drew ?_ | refine Later.drewN ?_ _ | refine Later.alloc ?_ _ | refine Later.put ?_ (by omega) _ | refine Later.trans ?_ (by assumption)))
            have DB : Blk W11 w10.heap.size 48 #[.int .i64 (loOf t).x, .int .i64 (loOf t).y, .int .i64 ((hiOf t).x - (loOf t).x), .int .i64 ((hiOf t).y - (loOf t).y)] := by rw [hW11]; exact (by repeat' (with_reducible first | assumption | (refine Blk.newAt ?_; simp; done) | refine Blk.alloc ?_ _ | refine Blk.drew ?_ | refine Blk.drewN ?_ _ | refine Blk.later ?_ (by assumption)))
            clear hW11
            generalize w10.heap.size = gB at *
            generalize (hiOf t).x - (loOf t).x = wd at *
            have c2 : W11.cell? ⟨gB, 2, none⟩ = some (.int .i64 wd) := DB.cell 2
            have zc := DB.lt
            have hlz : Later w5 W11 := ((hbr.trans hb8).trans (hb9.trans hb10)).trans hb11
            clear k0 z0 q0 q1 zt
            by_cases hk00 : k = 0
            · subst hk00
              rw [if_pos (Or.inl rfl)] at HRn
              go_wp2
              refine ⟨⟨1, wd, by omega, rfl, by go_num, HRn, hlz⟩, ?_⟩
              simp [intOf]
              omega
            · have d1 : (((k : Int)) == 0) = false := by simp; omega
              by_cases hwm : wd < m
              · rw [if_pos (Or.inr hwm)] at HRn
                go_wp2
                refine ⟨⟨k + 1, wd, by omega, rfl, by go_num, HRn, hlz⟩, ?_⟩
                simp [intOf]
                omega
              · rw [if_neg (by omega)] at HRn
                go_wp2
                refine ⟨⟨k + 1, m, by omega, rfl, by go_num, HRn, hlz⟩, ?_⟩
                simp [intOf]
                omega
          · have HRn := Lib.hid (show R = (0, checkI t) by rw [HRk.out, Hdr.out, HLk.out, if_pos hct])
            have der : (checkI t != 0) = true := by simpa using hct
            go_upto_region 12 with (first | (go_at_call 17; (with_reducible refine (HTk.out _ hl8).mono ?_); rintro e w9 ⟨A6, c6, rfl, hc6, _, p9, hb9⟩; have HBx := Lib.hid (polygon_Box_err A6 c6 t w9 (by omega) hc6 p9 hct)) | (go_at_call 10; (with_reducible refine HBx.out.mono ?_); rintro e w10 ⟨rfl, hb10⟩))
            have hl10 : Later w w10 := (hl8.trans hb9).trans hb10
            go_wp2
            refine bodyPost_ret (v := .tuple #[.int .i64 0, .int .i64 (checkI t)]) (by simp [results, Tryz.results25, go_sem]) rfl ⟨by rw [HRn.out], hl10.trans (by repeat' (with_reducible first | exact Later.refl _ | assumption | refine Later.drew ?_ | refine Later.drewN ?_ _ | refine Later.alloc ?_ _ | refine Later.put ?_ (by omega) _ | refine Later.trans ?_ (by assumption)))⟩
        · have hke : k = ts.length := by omega
          subst hke
          have HRn := Lib.hid (show R = (m, 0) by rw [HRk.out, List.drop_length, HL0.out])
          go_wp2
          refine bodyPost_ret (v := .tuple #[.int .i64 m, .int .i64 0]) (by simp [results, Tryz.results25, go_sem]) rfl ⟨by rw [HRn.out], hlr⟩
  · have der : (checkI sps != 0) = true := by simpa using hck
    go_wp2_with (go_at_call 27; (with_reducible refine (HC.out _ hl1).mono ?_); rintro e w2 ⟨rfl, hb2⟩)
    refine bodyPost_ret (v := .tuple #[.int .i64 0, .int .i64 (checkI sps)]) (by simp [results, Tryz.results25, go_sem]) rfl ⟨by rw [HN1.out hck], hl1.trans hb2⟩
end Go.Proofs.YtdhakoecjmaebaaGreat
/-
  The walk of search.Bound.
-/
namespace Go.Proofs.YtdhakoecjmaebaaGreat
open Go.RowKit Go.Lib
set_option linter.unusedSimpArgs false
set_option linter.unusedVariables false

theorem bound_cons (s : Sh) (l : List Sh) (a m : Int) : boundGo (s :: l) a m = if (narrowR s).2 ≠ 0 then (0, 0, (narrowR s).2) else boundGo l (a + max (areaI s.ps) (-(areaI s.ps))) (max m (narrowR s).1) := rfl
theorem narrow_check {s : Sh} (h : (narrowR s).2 = 0) : checkI s.ps = 0 := by
  unfold narrowR at h
  split at h
  · exact absurd h (by assumption)
  · rename_i h1
    simpa using h1
set_option maxHeartbeats 8000000 in
set_option maxRecDepth 100000 in
theorem search_Bound (b : Bd) (C : Option Addr) (cc : Nat) (l : List Sh) (w : World) (hs : Shapes w C l) (hl : l.length ≤ 5) (hlen : ∀ s ∈ l, s.ps.length ≤ 65536) :
    Calls Tryz.prog 8 #[b.agg, .slice C l.length cc] w (Ret (.tuple #[.int .i64 (boundR b l).1, .int .i64 (boundR b l).2]) w) := by
  have HN := Lib.hid (fun (s : Sh) (hm : s ∈ l) W (hW : ShOk W s) => search_narrowest s W hW.2.2.1 hW.1 (hlen s hm))
  have HA := Lib.hid (fun (s : Sh) (hm : s ∈ l) W (hW : ShOk W s) h => polygon_Area2 s.pa s.pc s.ps W (by have := hlen s hm; omega) hW.1 hW.2.2.1 h)
  obtain ⟨bl, bw, brx, bry⟩ := b
  unfold Bd.agg
  by_cases hbed : bl < 1 ∨ 1048576 < bl ∨ bw < 1 ∨ 1048576 < bw
  · have HR := Lib.hid (show boundR ⟨bl, bw, brx, bry⟩ l = (0, 3) from if_pos hbed)
    generalize boundR ⟨bl, bw, brx, bry⟩ l = R at *
    go_enter Tryz.func8, Tryz.ntmps8
    go_upto_region 1 with fail
    refine name_world (fun W1 hW1 => ?_)
    have hl1 : Later w W1 := by rw [hW1]; exact (by repeat' (with_reducible first | exact Later.refl _ | assumption | refine Later.drew ?_ | refine Later.drewN ?_ _ | refine Later.alloc ?_ _ | refine Later.put ?_ (by omega) _ | refine Later.trans ?_ (by assumption)))
    have B1 : Blk W1 w.heap.size 25 #[.int .i64 bl, .int .i64 bw, .int .i64 brx, .int .i64 bry] := by rw [hW1]; exact (by repeat' (with_reducible first | assumption | (refine Blk.newAt ?_; simp; done) | refine Blk.alloc ?_ _ | refine Blk.drew ?_ | refine Blk.drewN ?_ _ | refine Blk.later ?_ (by assumption)))
    clear hW1
    have k0 : W1.cell? ⟨w.heap.size, 0, none⟩ = some (.int .i64 bl) := B1.cell 0
    have k1 : W1.cell? ⟨w.heap.size, 1, none⟩ = some (.int .i64 bw) := B1.cell 1
    have z0 := B1.lt
    by_cases h1 : bl < 1
    · go_wp2
      refine bodyPost_ret (v := .tuple #[.int .i64 0, .int .i64 3]) (by simp [results, Tryz.results8, go_sem]) rfl ⟨by rw [HR.out], hl1⟩
    · by_cases h2 : 1048576 < bl
      · go_wp2
        refine bodyPost_ret (v := .tuple #[.int .i64 0, .int .i64 3]) (by simp [results, Tryz.results8, go_sem]) rfl ⟨by rw [HR.out], hl1⟩
      · by_cases h3 : bw < 1
        · go_wp2
          refine bodyPost_ret (v := .tuple #[.int .i64 0, .int .i64 3]) (by simp [results, Tryz.results8, go_sem]) rfl ⟨by rw [HR.out], hl1⟩
        · have h4 : 1048576 < bw := by omega
          go_wp2
          refine bodyPost_ret (v := .tuple #[.int .i64 0, .int .i64 3]) (by simp [results, Tryz.results8, go_sem]) rfl ⟨by rw [HR.out], hl1⟩
  · have hbl : 1 ≤ bl ∧ bl ≤ 1048576 ∧ 1 ≤ bw ∧ bw ≤ 1048576 := by omega
    have HR := Lib.hid (show boundR ⟨bl, bw, brx, bry⟩ l = if (boundGo l 0 0).2.2 ≠ 0 then (0, (boundGo l 0 0).2.2) else (max (((boundGo l 0 0).1 + 2 * bw - 1) / (2 * bw)) (boundGo l 0 0).2.1, 0) by
      unfold boundR
      rw [if_neg hbed, if_neg (by omega)])
    clear hbed
    generalize boundR ⟨bl, bw, brx, bry⟩ l = R at *
    go_enter Tryz.func8, Tryz.ntmps8
    go_upto_region 1 with fail
    refine name_world (fun W1 hW1 => ?_)
    have hl1 : Later w W1 := by rw [hW1]; exact (by repeat' (with_reducible first | exact Later.refl _ | assumption | refine Later.drew ?_ | refine Later.drewN ?_ _ | refine Later.alloc ?_ _ | refine Later.put ?_ (by omega) _ | refine Later.trans ?_ (by assumption)))
    have B1 : Blk W1 w.heap.size 25 #[.int .i64 bl, .int .i64 bw, .int .i64 brx, .int .i64 bry] := by rw [hW1]; exact (by repeat' (with_reducible first | assumption | (refine Blk.newAt ?_; simp; done) | refine Blk.alloc ?_ _ | refine Blk.drew ?_ | refine Blk.drewN ?_ _ | refine Blk.later ?_ (by assumption)))
    clear hW1
    obtain ⟨g, hg⟩ : ∃ g, g = w.heap.size := ⟨_, rfl⟩
    rw [← hg] at B1
    rw [← hg]
    clear hg
    have k0 : W1.cell? ⟨g, 0, none⟩ = some (.int .i64 bl) := B1.cell 0
    have k1 : W1.cell? ⟨g, 1, none⟩ = some (.int .i64 bw) := B1.cell 1
    have z0 := B1.lt
    have d60 : decide ((l.length : Int) > 60) = false := by simp; omega
    go_upto_region 7 with fail
    obtain ⟨G, hGe⟩ : ∃ G, G = boundGo l 0 0 := ⟨_, rfl⟩
    rw [← hGe] at HR
    have HG := Lib.hid (show G = boundGo (l.drop 0) 0 0 from hGe)
    clear hGe
    have HB := Lib.hid B1
    clear B1 k0 k1 z0
    go_loopw [6, 7, 36] (fun av mv iv wr => ∃ (k : Nat) (a m : Int), k ≤ l.length ∧ av = .int .i64 a ∧ mv = .int .i64 m ∧ iv = .int .i64 k ∧ Hid (G = boundGo (l.drop k) a m) ∧ 0 ≤ a ∧ a ≤ 4503599627370496 * (k : Int) ∧ Later W1 wr) (fun _ _ iv _ => l.length - (intOf iv).toNat)
    case atStart => exact ⟨0, 0, 0, by omega, rfl, rfl, rfl, HG, by omega, by omega, Later.refl _⟩
    case round =>
      obtain ⟨k, a, m, hk, rfl, rfl, rfl, HGk, ha0, ha1, hbr⟩ := hrel
      have hlr := hl1.trans hbr
      by_cases hlt : k < l.length
      · obtain ⟨bs, os, rfl, x0, x1, x2, x3, x4, hok⟩ := (hs.later hlr).at_ hlt
        have zbs := World.block_lt_of_cell? _ _ x0
        have Hdr := Lib.hid (List.drop_eq_getElem_cons hlt)
        have hm := List.getElem_mem hlt
        generalize l[k] = s at *
        have HGn := Lib.hid (bound_cons s (l.drop (k + 1)) a m)
        have HNs := Lib.hid (HN.out s hm)
        have HAs := Lib.hid (HA.out s hm)
        have HCk := Lib.hid (narrow_check (s := s))
        have Hok := Lib.hid hok
        clear hm hok
        generalize narrowR s = nr at *
        obtain ⟨nm, ne⟩ := nr
        obtain ⟨spa, spc, sps, sgr, smt, sax, say⟩ := s
        unfold Sh.agg at HNs
        simp only [] at x0 x1 x2 x3 x4 HNs HAs HCk HGn
        have hk0 : (0 : Int) ≤ (k : Int) := by omega
        have hk1 : (k : Int) < (l.length : Int) := by omega
        go_upto_region 9 with fail
        refine name_world (fun W8 hW8 => ?_)
        have hb8 : Later wr W8 := by rw [hW8]; exact (by repeat' (with_reducible first | exact Later.refl _ | assumption | refine Later.drew ?_ | refine Later.drewN ?_ _ | refine Later.alloc ?_ _ | refine Later.put ?_ (by omega) _ | refine Later.trans ?_ (by assumption)))
        have D8 : Blk W8 wr.heap.size 31 #[.slice spa sps.length spc, .int .i64 sgr, .bool smt, .int .i64 sax, .int .i64 say] := by rw [hW8]; exact (by repeat' (with_reducible first | assumption | (refine Blk.newAt ?_; simp; done) | refine Blk.alloc ?_ _ | refine Blk.drew ?_ | refine Blk.drewN ?_ _ | refine Blk.later ?_ (by assumption)))
        clear hW8 x0 x1 x2 x3 x4 zbs
        obtain ⟨gs_, hgs⟩ : ∃ g, g = wr.heap.size := ⟨_, rfl⟩
        rw [← hgs] at D8
        rw [← hgs]
        clear hgs
        have s0 : W8.cell? ⟨gs_, 0, none⟩ = some (.slice spa sps.length spc) := D8.cell 0
        have s1 : W8.cell? ⟨gs_, 1, none⟩ = some (.int .i64 sgr) := D8.cell 1
        have s2 : W8.cell? ⟨gs_, 2, none⟩ = some (.bool smt) := D8.cell 2
        have s3 : W8.cell? ⟨gs_, 3, none⟩ = some (.int .i64 sax) := D8.cell 3
        have s4 : W8.cell? ⟨gs_, 4, none⟩ = some (.int .i64 say) := D8.cell 4
        have zs := D8.lt
        by_cases hne : ne = 0
        · subst hne
          have hck := HCk.out rfl
          have HGm := Lib.hid (show G = boundGo (l.drop (k + 1)) (a + max (areaI sps) (-(areaI sps))) (max m nm) by rw [HGk.out, Hdr.out, HGn.out, if_neg (by simp)])
          have har := area_bound hck
          go_upto_region 12 with (go_at_call 25; (with_reducible refine (HNs.out _ (Hok.out.later hb8)).mono ?_); rintro e w9 ⟨rfl, hb9⟩)
          have D9 := D8.later hb9
          clear s0 s1 s2 s3 s4 zs
          have s0 : w9.cell? ⟨gs_, 0, none⟩ = some (.slice spa sps.length spc) := D9.cell 0
          have zs := D9.lt
          generalize areaI sps = ar at *
          have hl9 := hb8.trans hb9
          go_wp2_with (go_at_call 14; (with_reducible refine (HAs.out _ (Hok.out.later hl9) hck).mono ?_); rintro e w10 ⟨rfl, hb10⟩)
          refine ⟨⟨k + 1, _, _, by omega, rfl, rfl, by go_num, HGm, by omega, by omega, hbr.trans (hl9.trans hb10)⟩, ?_⟩
          simp [intOf]
          omega
        · have HGm := Lib.hid (show G = (0, 0, ne) by rw [HGk.out, Hdr.out, HGn.out, if_pos (by simpa using hne)])
          have der : (ne != 0) = true := by simpa using hne
          go_wp2_with (go_at_call 25; (with_reducible refine (HNs.out _ (Hok.out.later hb8)).mono ?_); rintro e w9 ⟨rfl, hb9⟩)
          refine bodyPost_ret (v := .tuple #[.int .i64 0, .int .i64 ne]) (by simp [results, Tryz.results8, go_sem]) rfl ⟨by rw [HR.out, HGm.out, if_pos (by simpa using hne)], hlr.trans (hb8.trans hb9)⟩
      · have hke : k = l.length := by omega
        subst hke
        have HGn := Lib.hid (show G = (a, m, 0) by rw [HGk.out, List.drop_length]; rfl)
        have B2 := HB.out.later hbr
        have k1 : wr.cell? ⟨g, 1, none⟩ = some (.int .i64 bw) := B2.cell 1
        have z0 := B2.lt
        have hdz : (2 * bw == 0) = false := by simp; omega
        go_wp2
        refine bodyPost_ret (v := .tuple #[.int .i64 (max ((a + 2 * bw - 1) / (2 * bw)) m), .int .i64 0]) (by simp [results, Tryz.results8, go_sem]) rfl ⟨by rw [HR.out, HGn.out, if_neg (by simp)], hlr⟩
end Go.Proofs.YtdhakoecjmaebaaGreat
