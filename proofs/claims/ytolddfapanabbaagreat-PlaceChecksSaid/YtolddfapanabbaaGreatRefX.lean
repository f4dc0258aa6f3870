/-
  The reference of layer 30: Fits returns what the program's Fits returns.
-/
import Derived.Test.YtolddfapanabbaaGreatRefW
namespace Go.Proofs.YtolddfapanabbaaGreat
open Go.RowKit
set_option linter.unusedSimpArgs false
set_option linter.unusedVariables false

theorem over_err {a b : List Pt} (ha : checkI a = 0) (hb : checkI b = 0) : (overR a b).2 = 0 := by
  rw [← rover_eq]
  unfold roverR
  rw [if_neg (by simpa using ha), if_neg (by simpa using hb)]

section
variable (b : Bd) (C P : Option Addr) (cc pc : Nat) (l : List Sh) (puts : List Pu) (p : Pu) (w : World)

set_option maxHeartbeats 2000000 in
theorem ref30_Fits_bed (h : b.l < 1 ∨ 1048576 < b.l ∨ b.w < 1 ∨ 1048576 < b.w) :
    Calls Tryz.prog 14 #[b.agg, .slice C l.length cc, .slice P puts.length pc, p.agg] w (Ret (.int .i64 3) w) := by
  have HS := Lib.hid (fun W => ref30_Sound b W)
  rw [sound_no h] at HS
  unfold Bd.agg at HS ⊢
  unfold Pu.agg
  obtain ⟨bl, bw, rx, ry⟩ := b
  obtain ⟨sh, fl, q, x, y⟩ := p
  simp only [] at HS
  clear h
  go_enter Tryz.func14, Tryz.ntmps14
  go_wp2_with (first | (go_at_call 22; (with_reducible refine (HS.out _).mono ?_); rintro e w1 ⟨rfl, hb1⟩))
  go_ret
  exact ⟨rfl, (by repeat' (with_reducible first | exact Later.refl _ | assumption | refine Later.drew ?_ | refine Later.drewN ?_ _ | refine Later.alloc ?_ _ | refine Later.put ?_ (by omega) _ | refine Later.trans ?_ (by assumption)))⟩

set_option maxHeartbeats 2000000 in
theorem ref30_Fits_poly (hs : Shapes w C l) (hl : l.length ≤ 65536) (hlen : ∀ s ∈ l, s.ps.length ≤ 1099511627776) (h : ¬ (b.l < 1 ∨ 1048576 < b.l ∨ b.w < 1 ∨ 1048576 < b.w)) (he : (polyR l p).2 ≠ 0) :
    Calls Tryz.prog 14 #[b.agg, .slice C l.length cc, .slice P puts.length pc, p.agg] w (Ret (.int .i64 (polyR l p).2) w) := by
  have HP := Lib.hid (fun W (hW : Later w W) => ref30_Poly_no C cc l p W (hs.later hW) hl hlen he)
  have HS := Lib.hid (fun W => ref30_Sound b W)
  rw [sound_yes h] at HS
  generalize (polyR l p).2 = er at *
  have h0 : (er != 0) = true := by simpa using he
  clear he h
  unfold Bd.agg at HS ⊢
  unfold Pu.agg at HP ⊢
  obtain ⟨bl, bw, rx, ry⟩ := b
  obtain ⟨sh, fl, q, x, y⟩ := p
  simp only [] at HP HS
  go_enter Tryz.func14, Tryz.ntmps14
  go_wp2_with (first
    | (go_at_call 22; (with_reducible refine (HS.out _).mono ?_); rintro e w0 ⟨rfl, hb0⟩; have K0 : Blk w0 w.heap.size 25 #[.int .i64 bl, .int .i64 bw, .int .i64 rx, .int .i64 ry] := Blk.later (by repeat' (with_reducible first | assumption | (refine Blk.newAt ?_; simp; done) | refine Blk.alloc ?_ _ | refine Blk.drew ?_ | refine Blk.drewN ?_ _ | refine Blk.later ?_ (by assumption))) hb0; have K1 : Blk w0 (w.heap.size + 1) 43 #[.int .i64 sh, .bool fl, .int .i64 q, .int .i64 x, .int .i64 y] := Blk.later (by repeat' (with_reducible first | assumption | (refine Blk.newAt ?_; simp; done) | refine Blk.alloc ?_ _ | refine Blk.drew ?_ | refine Blk.drewN ?_ _ | refine Blk.later ?_ (by assumption))) hb0; have hl0 : Later w w0 := (by repeat' (with_reducible first | exact Later.refl _ | assumption | refine Later.drew ?_ | refine Later.drewN ?_ _ | refine Later.alloc ?_ _ | refine Later.put ?_ (by omega) _ | refine Later.trans ?_ (by assumption))); have m0 : w0.cell? ⟨w.heap.size + 1, 0, none⟩ = some (.int .i64 sh) := K1.cell 0; have m1 : w0.cell? ⟨w.heap.size + 1, 1, none⟩ = some (.bool fl) := K1.cell 1; have m2 : w0.cell? ⟨w.heap.size + 1, 2, none⟩ = some (.int .i64 q) := K1.cell 2; have m3 : w0.cell? ⟨w.heap.size + 1, 3, none⟩ = some (.int .i64 x) := K1.cell 3; have m4 : w0.cell? ⟨w.heap.size + 1, 4, none⟩ = some (.int .i64 y) := K1.cell 4)
    | (go_at_call 23; (with_reducible refine (HP.out _ hl0).mono ?_); rintro e w1 ⟨rfl, hb1⟩))
  go_ret
  exact ⟨rfl, (by repeat' (with_reducible first | exact Later.refl _ | assumption | refine Later.drew ?_ | refine Later.drewN ?_ _ | refine Later.alloc ?_ _ | refine Later.put ?_ (by omega) _ | refine Later.trans ?_ (by assumption)))⟩

set_option maxHeartbeats 8000000 in
set_option maxRecDepth 100000 in
theorem ref30_Fits_in (hs : Shapes w C l) (hl : l.length ≤ 65536) (hlen : ∀ s ∈ l, s.ps.length ≤ 1099511627776) (hpu : Puts w P puts) (hpn : puts.length ≤ 65536) (h : ¬ (b.l < 1 ∨ 1048576 < b.l ∨ b.w < 1 ∨ 1048576 < b.w)) (he : (polyR l p).2 = 0) :
    Calls Tryz.prog 14 #[b.agg, .slice C l.length cc, .slice P puts.length pc, p.agg] w (Ret (.int .i64 (if selfR b l p ≠ 0 then selfR b l p else othGo l (polyR l p).1 puts)) w) := by
  have HP := Lib.hid (fun W (hW : Later w W) => ref30_Poly_yes C cc l p W (hs.later hW) hl hlen he)
  have HS := Lib.hid (fun W => ref30_Sound b W)
  rw [sound_yes h] at HS
  obtain ⟨⟨k1, k2⟩, ho, hck⟩ := polyR_ok he
  have h40 := len_of_check hck
  have hnr := outside_near ho
  have HPo := Lib.hid (fun o W (hW : Later w W) h => ref30_Poly_yes C cc l o W (hs.later hW) hl hlen h)
  have HPe := Lib.hid (fun o W (hW : Later w W) h => ref30_Poly_no C cc l o W (hs.later hW) hl hlen h)
  have HEr := Lib.hid (fun (a : List Pt) (ha : checkI a = 0) => over_err ha hck)
  generalize hres : (if selfR b l p ≠ 0 then selfR b l p else othGo l (polyR l p).1 puts) = res
  have Hres := Lib.hid hres
  clear hres he ho hck h
  obtain ⟨k, hk, hks⟩ : ∃ k : Nat, k < l.length ∧ p.sh = (k : Int) := ⟨p.sh.toNat, by omega, by omega⟩
  have hgk : gs l p.sh.toNat = l[k] := by rw [hks, Int.toNat_natCast, gs]; simp [hk]
  unfold selfR at Hres
  rw [hgk] at Hres
  obtain ⟨bb, ob, rfl, s0, s1, s2, s3, s4, hok⟩ := hs.at_ hk
  have HAl := Lib.hid (fun W => ref12_Allowed (l[k]).gr p.fl p.q W)
  have HM1 := Lib.hid (fun W => ref30_Matched b.rx b.ry (l[k]) p W hnr)
  have HOn := Lib.hid (fun A c W (hW : Pts W A (polyR l p).1) => ref30_On b A c (polyR l p).1 W (by omega) hW)
  have HO := Lib.hid (fun A1 c1 (a : List Pt) A2 c2 W (h1 : a.length ≤ 40) (h2 : a.length ≤ c1) (h3 : Pts W A1 a) (h4 : (polyR l p).1.length ≤ c2) (h5 : Pts W A2 (polyR l p).1) => ref15_Overlap A1 A2 c1 c2 a (polyR l p).1 W (by omega) (by omega) h2 h4 h3 h5)
  generalize l[k] = s at *
  generalize (polyR l p).1 = poly at *
  obtain ⟨spa, spc, sps, gr, mt, ax, ay⟩ := s
  unfold Bd.agg at HS HOn ⊢
  unfold Sh.agg matchedB at HM1
  unfold Pu.agg at HP HM1 ⊢
  obtain ⟨bl, bw, rx, ry⟩ := b
  obtain ⟨sh, fl, q, x, y⟩ := p
  simp only [] at HP HM1 HAl HS HOn hks s0 s1 s2 s3 s4 Hres k1 k2
  subst hks
  generalize allowB gr fl q = al at *
  have Hmt := Lib.hid (show (mt = true ∧ matchB rx ry ax ay ⟨(k : Int), fl, q, x, y⟩ = false) ↔ (if mt = true then matchB rx ry ax ay ⟨(k : Int), fl, q, x, y⟩ else true) = false by cases mt <;> simp)
  simp only [Hmt.out] at Hres
  clear Hmt
  generalize (if mt = true then matchB rx ry ax ay ⟨(k : Int), fl, q, x, y⟩ else true) = mb at *
  generalize onGo bl bw poly = ob1 at *
  have hk0 : (0 : Int) ≤ (k : Int) := by omega
  have hk1 : (k : Int) < (l.length : Int) := by omega
  clear hgk hok hnr
  go_enter Tryz.func14, Tryz.ntmps14
  go_upto_region 6 with (first
    | (go_at_call 22; (with_reducible refine (HS.out _).mono ?_); rintro e w0 ⟨rfl, hb0⟩; have K0 : Blk w0 w.heap.size 25 #[.int .i64 bl, .int .i64 bw, .int .i64 rx, .int .i64 ry] := Blk.later (by repeat' (with_reducible first | assumption | (refine Blk.newAt ?_; simp; done) | refine Blk.alloc ?_ _ | refine Blk.drew ?_ | refine Blk.drewN ?_ _ | refine Blk.later ?_ (by assumption))) hb0; have K1 : Blk w0 (w.heap.size + 1) 43 #[.int .i64 k, .bool fl, .int .i64 q, .int .i64 x, .int .i64 y] := Blk.later (by repeat' (with_reducible first | assumption | (refine Blk.newAt ?_; simp; done) | refine Blk.alloc ?_ _ | refine Blk.drew ?_ | refine Blk.drewN ?_ _ | refine Blk.later ?_ (by assumption))) hb0; have hl0 : Later w w0 := (by repeat' (with_reducible first | exact Later.refl _ | assumption | refine Later.drew ?_ | refine Later.drewN ?_ _ | refine Later.alloc ?_ _ | refine Later.put ?_ (by omega) _ | refine Later.trans ?_ (by assumption))); have m0 : w0.cell? ⟨w.heap.size + 1, 0, none⟩ = some (.int .i64 k) := K1.cell 0; have m1 : w0.cell? ⟨w.heap.size + 1, 1, none⟩ = some (.bool fl) := K1.cell 1; have m2 : w0.cell? ⟨w.heap.size + 1, 2, none⟩ = some (.int .i64 q) := K1.cell 2; have m3 : w0.cell? ⟨w.heap.size + 1, 3, none⟩ = some (.int .i64 x) := K1.cell 3; have m4 : w0.cell? ⟨w.heap.size + 1, 4, none⟩ = some (.int .i64 y) := K1.cell 4)
    | (go_at_call 23; (with_reducible refine (HP.out _ hl0).mono ?_); rintro e w1 ⟨A1, c1, rfl, q1, q2, q3, hb1⟩))
  have D0 := K0.later hb1
  have D1 := K1.later hb1
  have hl1 : Later w w1 := hl0.trans hb1
  have t0 := hl1.cell s0
  have t1 := hl1.cell s1
  have t2 := hl1.cell s2
  have t3 := hl1.cell s3
  have t4 := hl1.cell s4
  clear hb1 HP HS s0 s1 s2 s3 s4 K0 K1 hl0 m0 m1 m2 m3 m4 hb0
  generalize hNe : w.heap.size = N at *
  have HN := Lib.hid hNe
  clear hNe
  have c0 : w1.cell? ⟨N + 1, 0, none⟩ = some (.int .i64 k) := D1.cell 0
  have zb : bb < w1.heap.size := World.block_lt_of_cell? _ _ t0
  have zN : N + 1 < w1.heap.size := D1.lt
  go_upto_region 7 with fail
  refine name_world (fun W7 hW7 => ?_)
  have hl7 : Later w1 W7 := by rw [hW7]; exact (by repeat' (with_reducible first | exact Later.refl _ | assumption | refine Later.drew ?_ | refine Later.drewN ?_ _ | refine Later.alloc ?_ _ | refine Later.put ?_ (by omega) _ | refine Later.trans ?_ (by assumption)))
  have S7 : Blk W7 w1.heap.size 39 #[.slice spa sps.length spc, .int .i64 gr, .bool mt, .int .i64 ax, .int .i64 ay] := by rw [hW7]; exact (by repeat' (with_reducible first | assumption | (refine Blk.newAt ?_; simp; done) | refine Blk.alloc ?_ _ | refine Blk.drew ?_ | refine Blk.drewN ?_ _ | refine Blk.later ?_ (by assumption)))
  clear hW7 c0 zb zN t0 t1 t2 t3 t4
  generalize w1.heap.size = G at *
  have E0 := D0.later hl7
  have E1 := D1.later hl7
  have c1' : W7.cell? ⟨N + 1, 1, none⟩ = some (.bool fl) := E1.cell 1
  have c2 : W7.cell? ⟨N + 1, 2, none⟩ = some (.int .i64 q) := E1.cell 2
  have g1 : W7.cell? ⟨G, 1, none⟩ = some (.int .i64 gr) := S7.cell 1
  cases al
  · go_wp2_with (first | (go_at_call 24; (with_reducible refine (HAl.out _).mono ?_); rintro e w8 ⟨rfl, hb8⟩))
    go_ret
    exact ⟨ret_int (by rw [← Hres.out]; simp), (by repeat' (with_reducible first | exact Later.refl _ | assumption | refine Later.drew ?_ | refine Later.drewN ?_ _ | refine Later.alloc ?_ _ | refine Later.put ?_ (by omega) _ | refine Later.trans ?_ (by assumption)))⟩
  · go_upto_region 9 with (first | (go_at_call 24; (with_reducible refine (HAl.out _).mono ?_); rintro e w8 ⟨rfl, hb8⟩))
    have hl78 : Later w1 w8 := hl7.trans hb8
    have hl8 : Later w w8 := hl1.trans hl78
    have F0 := E0.later hb8
    have F1 := E1.later hb8
    have FS := S7.later hb8
    have q8 := q3.later hl78
    clear c1' c2 g1 E0 E1 S7 D0 D1 HAl hl7 hb8
    have b0 : w8.cell? ⟨N, 0, none⟩ = some (.int .i64 bl) := F0.cell 0
    have b1 : w8.cell? ⟨N, 1, none⟩ = some (.int .i64 bw) := F0.cell 1
    have b2 : w8.cell? ⟨N, 2, none⟩ = some (.int .i64 rx) := F0.cell 2
    have b3 : w8.cell? ⟨N, 3, none⟩ = some (.int .i64 ry) := F0.cell 3
    cases ob1
    · go_wp2_with (first | (go_at_call 25; (with_reducible refine (HOn.out _ _ _ q8).mono ?_); rintro e w9 ⟨rfl, hb9⟩))
      go_ret
      exact ⟨ret_int (by rw [← Hres.out]; simp), (by repeat' (with_reducible first | exact Later.refl _ | assumption | refine Later.drew ?_ | refine Later.drewN ?_ _ | refine Later.alloc ?_ _ | refine Later.put ?_ (by omega) _ | refine Later.trans ?_ (by assumption)))⟩
    go_upto_region 11 with (first | (go_at_call 25; (with_reducible refine (HOn.out _ _ _ q8).mono ?_); rintro e w9 ⟨rfl, hb9⟩))
    have G0 := F0.later hb9
    have G1 := F1.later hb9
    have GS := FS.later hb9
    clear b0 b1 b2 b3 F0 F1 FS
    have b2 : w9.cell? ⟨N, 2, none⟩ = some (.int .i64 rx) := G0.cell 2
    have b3 : w9.cell? ⟨N, 3, none⟩ = some (.int .i64 ry) := G0.cell 3
    have u0 : w9.cell? ⟨N + 1, 0, none⟩ = some (.int .i64 k) := G1.cell 0
    have u1 : w9.cell? ⟨N + 1, 1, none⟩ = some (.bool fl) := G1.cell 1
    have u2 : w9.cell? ⟨N + 1, 2, none⟩ = some (.int .i64 q) := G1.cell 2
    have u3 : w9.cell? ⟨N + 1, 3, none⟩ = some (.int .i64 x) := G1.cell 3
    have u4 : w9.cell? ⟨N + 1, 4, none⟩ = some (.int .i64 y) := G1.cell 4
    have v0 : w9.cell? ⟨G, 0, none⟩ = some (.slice spa sps.length spc) := GS.cell 0
    have v1 : w9.cell? ⟨G, 1, none⟩ = some (.int .i64 gr) := GS.cell 1
    have v2 : w9.cell? ⟨G, 2, none⟩ = some (.bool mt) := GS.cell 2
    have v3 : w9.cell? ⟨G, 3, none⟩ = some (.int .i64 ax) := GS.cell 3
    have v4 : w9.cell? ⟨G, 4, none⟩ = some (.int .i64 ay) := GS.cell 4
    cases mb
    · go_wp2_with (first | (go_at_call 26; (with_reducible refine (HM1.out _).mono ?_); rintro e w10 ⟨rfl, hb10⟩))
      go_ret
      exact ⟨ret_int (by rw [← Hres.out]; simp), (by repeat' (with_reducible first | exact Later.refl _ | assumption | refine Later.drew ?_ | refine Later.drewN ?_ _ | refine Later.alloc ?_ _ | refine Later.put ?_ (by omega) _ | refine Later.trans ?_ (by assumption)))⟩
    have Hr2 := Lib.hid (show othGo l poly puts = res by rw [← Hres.out]; simp)
    clear Hres
    go_wp2_with (first | (go_at_call 26; (with_reducible refine (HM1.out _).mono ?_); rintro e w10 ⟨rfl, hb10⟩))
    have hl10 : Later w w10 := hl8.trans (hb9.trans hb10)
    have q10 := q8.later (hb9.trans hb10)
    clear b2 b3 u0 u1 u2 u3 u4 v0 v1 v2 v3 v4 G0 G1 GS
    go_loopw [8, 12] (fun _ iv wq => ∃ i : Nat, i ≤ puts.length ∧ iv = .int .i64 i ∧ othGo l poly puts = othGo l poly (puts.drop i) ∧ Later w10 wq) (fun _ iv _ => puts.length - (intOf iv).toNat)
    case atStart => exact ⟨0, by omega, rfl, rfl, Later.refl _⟩
    case round =>
      obtain ⟨i, hi, rfl, he, hb⟩ := hrel
      have He := Lib.hid he
      clear he
      have hlw := hl10.trans hb
      by_cases hlt : i < puts.length
      · obtain ⟨b5, o5, rfl, e0, e1, e2, e3, e4, hok5⟩ := (hpu.later hlw).at_ hlt
        have hbz : b5 < wr.heap.size := World.block_lt_of_cell? _ _ e0
        have Hd := Lib.hid (drop_cons' puts i hlt)
        generalize puts[i] = o at *
        have hi0 : (0 : Int) ≤ (i : Int) := by omega
        have hi1 : (i : Int) < (puts.length : Int) := by omega
        rcases Classical.em ((polyR l o).2 = 0) with hpo | hpo
        · have HQ := Lib.hid (fun W (hW : Later w W) => HPo.out o W hW hpo)
          have Hpo := Lib.hid hpo
          have h4o := len_of_check (polyR_ok hpo).2.2
          have HO1 := Lib.hid (fun A1 c1 A2 c2 W h2 h3 h4 h5 => HO.out A1 c1 (polyR l o).1 A2 c2 W h4o h2 h3 h4 h5)
          rw [rover_eq] at HO1
          have hoe := HEr.out _ (polyR_ok hpo).2.2
          clear hpo
          rcases hov : overR (polyR l o).1 poly with ⟨ob5, oe5⟩
          rw [hov] at HO1 hoe
          simp only [] at hoe
          subst hoe
          have Hov := Lib.hid hov
          clear hov
          unfold Pu.agg at HQ
          obtain ⟨osh, ofl, oq, ox, oy⟩ := o
          simp only [] at e0 e1 e2 e3 e4 HQ HO1
          cases ob5
          · go_wp2_with (first | (go_at_call 23; (with_reducible refine (HQ.out _ hlw).mono ?_); rintro e w5 ⟨A5, c5, rfl, z1, z2, z3, hb5⟩) | (go_at_call 27; (with_reducible refine (HO1.out _ _ _ _ _ z1 z3 q1 (q10.later (hb.trans hb5))).mono ?_); rintro e w6 ⟨rfl, hb6⟩))
            go_roundw
            case rel => exact ⟨i + 1, by omega, by go_num, by rw [He.out, Hd.out]; exact oth_go Hpo.out (by rw [Hov.out]) (by rw [Hov.out]), hb.trans (hb5.trans hb6)⟩
            case measure => simp [intOf]; omega
          · go_wp2_with (first | (go_at_call 23; (with_reducible refine (HQ.out _ hlw).mono ?_); rintro e w5 ⟨A5, c5, rfl, z1, z2, z3, hb5⟩) | (go_at_call 27; (with_reducible refine (HO1.out _ _ _ _ _ z1 z3 q1 (q10.later (hb.trans hb5))).mono ?_); rintro e w6 ⟨rfl, hb6⟩))
            go_ret
            exact ⟨ret_int (by rw [← Hr2.out, He.out, Hd.out]; exact (oth_hit Hpo.out (by rw [Hov.out]) (by rw [Hov.out])).symm), (by repeat' (with_reducible first | exact Later.refl _ | assumption | refine Later.drew ?_ | refine Later.drewN ?_ _ | refine Later.alloc ?_ _ | refine Later.put ?_ (by omega) _ | refine Later.trans ?_ (by assumption)))⟩
        · have HQ := Lib.hid (fun W (hW : Later w W) => HPe.out o W hW hpo)
          have HX := Lib.hid (oth_poly (poly := poly) (r := puts.drop (i + 1)) hpo)
          have dd : ((polyR l o).2 != 0) = true := by simpa using hpo
          clear hpo
          generalize (polyR l o).2 = oe at *
          unfold Pu.agg at HQ
          obtain ⟨osh, ofl, oq, ox, oy⟩ := o
          simp only [] at e0 e1 e2 e3 e4 HQ
          go_wp2_with (first | (go_at_call 23; (with_reducible refine (HQ.out _ hlw).mono ?_); rintro e w5 ⟨rfl, hb5⟩))
          go_ret
          exact ⟨ret_int (by rw [← Hr2.out, He.out, Hd.out]; exact HX.out.symm), (by repeat' (with_reducible first | exact Later.refl _ | assumption | refine Later.drew ?_ | refine Later.drewN ?_ _ | refine Later.alloc ?_ _ | refine Later.put ?_ (by omega) _ | refine Later.trans ?_ (by assumption)))⟩
      · go_wp2
        go_ret
        exact ⟨ret_int (by rw [← Hr2.out, He.out, List.drop_eq_nil_of_le (by omega)]; rfl), hlw⟩
theorem ref30_Fits (hs : Shapes w C l) (hl : l.length ≤ 65536) (hlen : ∀ s ∈ l, s.ps.length ≤ 1099511627776) (hpu : Puts w P puts) (hpn : puts.length ≤ 65536) :
    Calls Tryz.prog 14 #[b.agg, .slice C l.length cc, .slice P puts.length pc, p.agg] w (Ret (.int .i64 (fitsR b l puts p)) w) := by
  unfold fitsR
  by_cases h : b.l < 1 ∨ 1048576 < b.l ∨ b.w < 1 ∨ 1048576 < b.w
  · rw [if_pos h]
    exact ref30_Fits_bed b C P cc pc l puts p w h
  · rw [if_neg h]
    by_cases he : (polyR l p).2 = 0
    · rw [if_neg (by simpa using he)]
      exact ref30_Fits_in b C P cc pc l puts p w hs hl hlen hpu hpn h he
    · rw [if_pos he]
      exact ref30_Fits_poly b C P cc pc l puts p w hs hl hlen h he
end

end Go.Proofs.YtolddfapanabbaaGreat
