/-
 The reference's search for what is left of a roll, plain: the next part from a place on is the first of the sorted zones from there on.
 Reference 38: plied returns what the program's checkPly returns.
 Reference 38: all, Check return what the program returns.
 Reference 38: Rests returns what the program's Rests returns.
-/
import Derived.Test.YtdhakoecjmaebaaGreatZSprR
import Derived.Test.YtdhakoecjmaebaaGreatZSprU
import Derived.Test.YtdhakoecjmaebaaGreatZRef37
import Derived.Test.YtdhakoecjmaebaaGreatZSprC
import Derived.Test.YtdhakoecjmaebaaGreatZSprG
namespace Go.Proofs.YtdhakoecjmaebaaGreat
open Go.RowKit
set_option linter.unusedSimpArgs false
set_option linter.unusedVariables false
structure Suf (i at_ ln : Int) (parts : List Qd) (zs : List Pt) : Prop where
 mem : ∀ z, z ∈ zs ↔ (∃ p ∈ parts, p.a = i ∧ z = ⟨p.b, p.c⟩) ∧ at_ ≤ z.x
 apt : Apt zs
 pos : ∀ z ∈ zs, z.x < z.y ∧ z.y ≤ ln
 le : at_ ≤ ln
end Go.Proofs.YtdhakoecjmaebaaGreat
namespace Go.Proofs.YtdhakoecjmaebaaGreat
open Go.RowKit
set_option linter.unusedSimpArgs false
set_option linter.unusedVariables false
set_option maxHeartbeats 8000000 in
set_option maxRecDepth 100000 in
theorem ref38_plied (Q C L S1 S2 B : Option Addr) (qc cc lc n1 c1 n2 c2 cb : Nat) (len wd rx ry lot : Int) (polys : List (List Pt)) (rs : List Rl) (lots : List Int) (parts : List Qd) (w : World)
  (hps : Polys w Q polys) (hpl : ∀ p ∈ polys, p.length ≤ 1099511627776) (hr : Rolls w C rs) (hrl : rs.length ≤ 20) (hL : Ints w L lots) (hll : lots.length = rs.length) (hq : Qds w B parts) (hqn : parts.length ≤ 65536)
  (hlen : 1 ≤ len ∧ len ≤ 1048576) (hln : ∀ r ∈ rs, r.ln ≤ 1048576) :
  Calls Tryz.prog 81 #[.agg #[.int .i64 lot, .slice B parts.length cb], .agg #[.int .i64 len, .int .i64 wd, .int .i64 rx, .int .i64 ry, .slice S1 n1 c1, .slice S2 n2 c2], .slice Q polys.length qc, .slice C rs.length cc, .slice L lots.length lc] w
   (Ret (.int .i64 (plyR len wd polys rs lots (lot, parts))) w) := by
 have HR := Lib.hid (show plyR len wd polys rs lots (lot, parts) = plyGo len wd polys rs lots lot none parts from rfl)
 generalize plyR len wd polys rs lots (lot, parts) = R at *
 have Hll := Lib.hid hll
 clear hll
 go_enter Tryz.func81, Tryz.ntmps81
 rcases Nat.eq_zero_or_pos parts.length with h0 | h0
 ·have d0 : ((parts.length : Int) == 0) = true := by simp [h0]
  have HR0 := Lib.hid (show R = 20 by rw [HR.out, List.eq_nil_of_length_eq_zero h0]; rfl)
  have H0 := Lib.hid h0
  clear h0
  go_wp2
  go_ret
  exact ⟨ret_int HR0.out.symm, (by repeat' (with_reducible first | exact .refl _ | assumption | refine .drew ?_ | refine .drewN ?_ _ | refine .alloc ?_ _ | refine .put ?_ (by omega) _ | refine .trans ?_ (by assumption)))⟩
 have d0 : ((parts.length : Int) == 0) = false := by rw [beq_eq_false_iff_ne]; omega
 go_wp2
 refine name_world (fun W0 hW0 => ?_)
 have hl0 : Later w W0 := by rw [hW0]; exact (by repeat' (with_reducible first | exact .refl _ | assumption | refine .drew ?_ | refine .drewN ?_ _ | refine .alloc ?_ _ | refine .put ?_ (by omega) _ | refine .trans ?_ (by assumption)))
 have D5 : Blk W0 (w.heap.size + 1) 62 #[.int .i64 len, .int .i64 wd, .int .i64 rx, .int .i64 ry, .slice S1 n1 c1, .slice S2 n2 c2] := by rw [hW0]; exact (by repeat' (with_reducible first | assumption | (refine Blk.newAt ?_; simp; done) | refine Blk.alloc ?_ _ | refine Blk.drew ?_ | refine Blk.drewN ?_ _ | refine Blk.later ?_ (by assumption)))
 have D9 : Blk W0 w.heap.size 95 #[.int .i64 lot, .slice B parts.length cb] := by rw [hW0]; exact (by repeat' (with_reducible first | assumption | (refine Blk.newAt ?_; simp; done) | refine Blk.alloc ?_ _ | refine Blk.drew ?_ | refine Blk.drewN ?_ _ | refine Blk.later ?_ (by assumption)))
 clear hW0 d0
 generalize w.heap.size = g5 at *
 go_loopw [11] (fun iv wr => ∃ k : Nat, k ≤ parts.length ∧ iv = .int .i64 k ∧ R = plyGo len wd polys rs lots lot (prevOf parts k) (parts.drop k) ∧ (∀ q, prevOf parts k = some q → QdM q) ∧ Later W0 wr) (fun iv _ => parts.length - (intOf iv).toNat)
 case atStart => exact ⟨0, by omega, rfl, HR.out, (fun q h => by cases h), Later.refl _⟩
 case round =>
  obtain ⟨k, hk, rfl, he, hpm, hb⟩ := hrel
  have He := Lib.hid he
  have Hpm := Lib.hid hpm
  clear he hpm
  have hlw : Later w wr := hl0.trans hb
  have m0 : wr.cell? ⟨g5 + 1, 0, none⟩ = some (.int .i64 len) := hb.cell (D5.cell 0)
  have m1 : wr.cell? ⟨g5 + 1, 1, none⟩ = some (.int .i64 wd) := hb.cell (D5.cell 1)
  have y0 : wr.cell? ⟨g5, 0, none⟩ = some (.int .i64 lot) := hb.cell (D9.cell 0)
  have y1 : wr.cell? ⟨g5, 1, none⟩ = some (.slice B parts.length cb) := hb.cell (D9.cell 1)
  have z5 : g5 + 1 < wr.heap.size := World.block_lt_of_cell? _ _ m0
  have z9 : g5 < wr.heap.size := World.block_lt_of_cell? _ _ y0
  by_cases hlt : k < parts.length
  ·obtain ⟨bq, oq, rfl, hat⟩ := (hq.later hlw) (by omega)
   obtain ⟨q0, q1, q2, q3⟩ := hat.get hlt
   have hbz : bq < wr.heap.size := World.block_lt_of_cell? _ _ q0
   have Hd := Lib.hid (drop_cons' parts k hlt)
   have Hat := Lib.hid hat
   have Hprev := Lib.hid (show prevOf parts (k + 1) = some parts[k] by unfold prevOf; rw [if_neg (by omega), Nat.add_sub_cancel]; exact List.getElem?_eq_getElem hlt)
   generalize hp : parts[k] = p at *
   clear hp hat
   have HC := Lib.hid (fun W (hW : Later w W) => ref38_sound C cc p rs W (hr.later hW) (by omega))
   have Hbad := Lib.hid (fun (h : partErr len wd polys rs lots lot (prevOf parts k) p ≠ 0) => He.out.trans ((congrArg _ Hd.out).trans (ply_bad h)))
   have Hgood := Lib.hid (fun (h : partErr len wd polys rs lots lot (prevOf parts k) p = 0) => He.out.trans ((congrArg _ Hd.out).trans (ply_ok h)))
   have Hrange := Lib.hid (pe_range (len := len) (wd := wd) (polys := polys) (rs := rs) (lots := lots) (lot := lot) (prev := prevOf parts k) (p := p))
   have Hcb := Lib.hid (clothB_in (p := p) (rs := rs))
   obtain ⟨pa, pb, pc, pd⟩ := p
   unfold Qd.agg at HC
   simp only [] at q0 q1 q2 q3 HC Hcb Hrange
   rcases hcb : clothB ⟨pa, pb, pc, pd⟩ rs with _ | _
   ·rw [hcb] at HC
    have HRv := Lib.hid (show R = 3 by rw [Hbad.out (by rw [Hrange.out (.inl hcb)]; decide), Hrange.out (.inl hcb)])
    clear hcb
    go_wp2_with (first | (go_at_call 127; (with_reducible refine (HC.out _ (hlw.trans (by repeat' (with_reducible first | exact .refl _ | assumption | refine .drew ?_ | refine .drewN ?_ _ | refine .alloc ?_ _ | refine .put ?_ (by omega) _ | refine .trans ?_ (by assumption))))).mono ?_); rintro e w5 ⟨rfl, hb5⟩))
    go_ret
    exact ⟨ret_int HRv.out.symm, hlw.trans (by repeat' (with_reducible first | exact .refl _ | assumption | refine .drew ?_ | refine .drewN ?_ _ | refine .alloc ?_ _ | refine .put ?_ (by omega) _ | refine .trans ?_ (by assumption)))⟩
   rw [hcb] at HC
   obtain ⟨b1, b2, b3, b4, b5⟩ := Hcb.out hcb
   have Hcb2 := Lib.hid hcb
   clear hcb Hcb
   by_cases hd0 : pd < 0
   ·have dd0 : decide (pd < 0) = true := by simpa using hd0
    have HRv := Lib.hid (show R = 3 by rw [Hbad.out (by rw [Hrange.out (.inr (.inl hd0))]; decide), Hrange.out (.inr (.inl hd0))])
    go_wp2_with (first | (go_at_call 127; (with_reducible refine (HC.out _ (hlw.trans (by repeat' (with_reducible first | exact .refl _ | assumption | refine .drew ?_ | refine .drewN ?_ _ | refine .alloc ?_ _ | refine .put ?_ (by omega) _ | refine .trans ?_ (by assumption))))).mono ?_); rintro e w5 ⟨rfl, hb5⟩; have c3 : w5.cell? ⟨wr.heap.size, 3, none⟩ = some (.int .i64 pd) := hb5.cell (by simp [go_sem])))
    go_ret
    exact ⟨ret_int HRv.out.symm, hlw.trans (by repeat' (with_reducible first | exact .refl _ | assumption | refine .drew ?_ | refine .drewN ?_ _ | refine .alloc ?_ _ | refine .put ?_ (by omega) _ | refine .trans ?_ (by assumption)))⟩
   have dd0 : decide (pd < 0) = false := by simpa using hd0
   by_cases hd1 : len < pd
   ·have dd1 : decide (len < pd) = true := by simpa using hd1
    have HRv := Lib.hid (show R = 3 by rw [Hbad.out (by rw [Hrange.out (.inr (.inr hd1))]; decide), Hrange.out (.inr (.inr hd1))])
    go_wp2_with (first | (go_at_call 127; (with_reducible refine (HC.out _ (hlw.trans (by repeat' (with_reducible first | exact .refl _ | assumption | refine .drew ?_ | refine .drewN ?_ _ | refine .alloc ?_ _ | refine .put ?_ (by omega) _ | refine .trans ?_ (by assumption))))).mono ?_); rintro e w5 ⟨rfl, hb5⟩; have c3 : w5.cell? ⟨wr.heap.size, 3, none⟩ = some (.int .i64 pd) := hb5.cell (by simp [go_sem]); have m0' : w5.cell? ⟨g5 + 1, 0, none⟩ = some (.int .i64 len) := hb5.cell (Later.cell ((Later.refl wr).alloc _) m0)))
    go_ret
    exact ⟨ret_int HRv.out.symm, hlw.trans (by repeat' (with_reducible first | exact .refl _ | assumption | refine .drew ?_ | refine .drewN ?_ _ | refine .alloc ?_ _ | refine .put ?_ (by omega) _ | refine .trans ?_ (by assumption)))⟩
   have dd1 : decide (len < pd) = false := by simpa using hd1
   have hnr : ¬ (clothB ⟨pa, pb, pc, pd⟩ rs = false ∨ pd < 0 ∨ len < pd) := by
    rintro (h | h | h)
    ·rw [Hcb2.out] at h; cases h
    ·exact hd0 h
    ·exact hd1 h
   obtain ⟨n, rfl⟩ : ∃ n : Nat, pa = (n : Int) := ⟨pa.toNat, by omega⟩
   have hn : n < rs.length := by omega
   have hnl : n < lots.length := by rw [Hll.out]; exact hn
   have Hlot := Lib.hid (pe_lot (len := len) (wd := wd) (polys := polys) (rs := rs) (lots := lots) (lot := lot) (prev := prevOf parts k) (p := ⟨(n : Int), pb, pc, pd⟩) hnr)
   have Hwide := Lib.hid (pe_wide (len := len) (wd := wd) (polys := polys) (rs := rs) (lots := lots) (lot := lot) (prev := prevOf parts k) (p := ⟨(n : Int), pb, pc, pd⟩) hnr)
   have Hfirst := Lib.hid (pe_first (len := len) (wd := wd) (polys := polys) (rs := rs) (lots := lots) (lot := lot) (p := ⟨(n : Int), pb, pc, pd⟩) hnr)
   have Hjoin := Lib.hid (fun q => pe_join (len := len) (wd := wd) (polys := polys) (rs := rs) (lots := lots) (lot := lot) (p := ⟨(n : Int), pb, pc, pd⟩) (q := q) hnr)
   have hlnn : (grl rs n).ln ≤ 1048576 := by rw [grl_eq hn]; exact hln _ (List.getElem_mem hn)
   simp only [Int.toNat_natCast] at Hlot Hwide Hfirst Hjoin b5
   have HQM := Lib.hid (show QdM ⟨(n : Int), pb, pc, pd⟩ by unfold QdM; simp only []; omega)
   clear hnr
   obtain ⟨bl, ol, rfl, l0⟩ := (hL.later hlw).at_ hnl
   rw [gL_eq hnl] at Hlot Hwide Hfirst Hjoin
   obtain ⟨br, or_, rfl, _, r1, _⟩ := (hr.later hlw).at_ hn
   rw [grl_eq hn] at Hwide Hfirst Hjoin
   generalize lots[n] = lt at *
   generalize (rs[n]).wd = rw_ at *
   have hn0 : (0 : Int) ≤ (n : Int) := by omega
   have hn1 : (n : Int) < (rs.length : Int) := by omega
   have hn2 : (n : Int) < (lots.length : Int) := by omega
   have zl : bl < wr.heap.size := World.block_lt_of_cell? _ _ l0
   have zr : br < wr.heap.size := World.block_lt_of_cell? _ _ r1
   go_upto_region 9 with (first | (go_at_call 127; (with_reducible refine (HC.out _ (hlw.trans (by repeat' (with_reducible first | exact .refl _ | assumption | refine .drew ?_ | refine .drewN ?_ _ | refine .alloc ?_ _ | refine .put ?_ (by omega) _ | refine .trans ?_ (by assumption))))).mono ?_); rintro e w5 ⟨rfl, hb5⟩; have c3 : w5.cell? ⟨wr.heap.size, 3, none⟩ = some (.int .i64 pd) := hb5.cell (by simp [go_sem]); have c0 : w5.cell? ⟨wr.heap.size, 0, none⟩ = some (.int .i64 n) := hb5.cell (by simp [go_sem]); have c1' : w5.cell? ⟨wr.heap.size, 1, none⟩ = some (.int .i64 pb) := hb5.cell (by simp [go_sem]); have c2' : w5.cell? ⟨wr.heap.size, 2, none⟩ = some (.int .i64 pc) := hb5.cell (by simp [go_sem]); have hl5 : Later wr w5 := ((Later.refl wr).alloc _).trans hb5; have m0 := hl5.cell m0; have m1 := hl5.cell m1; have y0 := hl5.cell y0; have y1 := hl5.cell y1; have l0 := hl5.cell l0; have r1 := hl5.cell r1))
   have z12 : wr.heap.size < w5.heap.size := World.block_lt_of_cell? _ _ c0
   have zl := World.block_lt_of_cell? _ _ l0
   have zr := World.block_lt_of_cell? _ _ r1
   have z5 := World.block_lt_of_cell? _ _ m0
   have z9 := World.block_lt_of_cell? _ _ y0
   have HAT := Lib.hid (Hat.out.later hl5)
   have hlw5 : Later w w5 := hlw.trans hl5
   have hlW5 : Later W0 w5 := hb.trans hl5
   clear hb5 q0 q1 q2 q3 Hat
   generalize wr.heap.size = g12 at *
   by_cases hlot : lt = lot
   ·have dl : (lt != lot) = false := by simpa using hlot
    have Hlt := Lib.hid hlot
    clear hlot
    by_cases hwd : rw_ < wd
    ·have dw : decide (rw_ < wd) = true := by simpa using hwd
     have HRv := Lib.hid (show R = 13 by rw [Hbad.out (by rw [Hwide.out Hlt.out hwd]; decide), Hwide.out Hlt.out hwd])
     go_quiet (fail)
     go_upto_region 11 with fail
     go_quiet (fail)
     go_wp2
     go_ret
     exact ⟨ret_int HRv.out.symm, hlw5.trans (by repeat' (with_reducible first | exact .refl _ | assumption | refine .drew ?_ | refine .drewN ?_ _ | refine .alloc ?_ _ | refine .put ?_ (by omega) _ | refine .trans ?_ (by assumption)))⟩
    ·have dw : decide (rw_ < wd) = false := by simpa using hwd
     go_quiet (fail)
     go_upto_region 11 with fail
     go_quiet (fail)
     go_upto_region 13 with fail
     refine name_world (fun W6 hW6 => ?_)
     have hl6 : Later w5 W6 := by rw [hW6]; exact (by repeat' (with_reducible first | exact .refl _ | assumption | refine .drew ?_ | refine .drewN ?_ _ | refine .alloc ?_ _ | refine .put ?_ (by omega) _ | refine .trans ?_ (by assumption)))
     clear hW6
     have c0 := hl6.cell c0
     have c1' := hl6.cell c1'
     have c2' := hl6.cell c2'
     have c3 := hl6.cell c3
     have m0 := hl6.cell m0
     have y1 := hl6.cell y1
     have hlw6 : Later w W6 := hlw5.trans hl6
     have hlW6 : Later W0 W6 := hlW5.trans hl6
     have z12 := World.block_lt_of_cell? _ _ c0
     have z5 := World.block_lt_of_cell? _ _ m0
     have z9 := World.block_lt_of_cell? _ _ y1
     rcases Nat.eq_zero_or_pos k with hk0 | hk0
     ·subst hk0
      have Hpe := Lib.hid (Hfirst.out Hlt.out (by omega))
      by_cases hpd : pd = 0
      ·have dpd : (pd != 0) = false := by simpa using hpd
       have HRv := Lib.hid (show R = plyGo len wd polys rs lots lot (prevOf parts (0 + 1)) (parts.drop (0 + 1)) by rw [Hprev.out]; exact Hgood.out (by show partErr len wd polys rs lots lot none _ = 0; rw [Hpe.out, if_neg (by simpa using hpd)]))
       have Hpd := Lib.hid hpd
       clear hpd
       go_quiet (fail)
       go_wp2
       go_roundw
       case rel => exact ⟨0 + 1, by omega, by go_num, HRv.out, (fun q h => by rw [Hprev.out] at h; cases h; exact HQM.out), hlW6.trans (by repeat' (with_reducible first | exact .refl _ | assumption | refine .drew ?_ | refine .drewN ?_ _ | refine .alloc ?_ _ | refine .put ?_ (by omega) _ | refine .trans ?_ (by assumption)))⟩
       case measure => simp [intOf]; omega
      ·have dpd : (pd != 0) = true := by simpa using hpd
       have HRv := Lib.hid (show R = 20 by
        have e : partErr len wd polys rs lots lot none ⟨(n : Int), pb, pc, pd⟩ = 20 := by rw [Hpe.out, if_pos (by simpa using hpd)]
        have e2 := Hbad.out (by show partErr len wd polys rs lots lot none _ ≠ 0; rw [e]; decide)
        exact e2.trans e)
       go_quiet (fail)
       go_wp2
       go_ret
       exact ⟨ret_int HRv.out.symm, hlw6.trans (by repeat' (with_reducible first | exact .refl _ | assumption | refine .drew ?_ | refine .drewN ?_ _ | refine .alloc ?_ _ | refine .put ?_ (by omega) _ | refine .trans ?_ (by assumption)))⟩
     ·have hk1 : k - 1 < parts.length := by omega
      have hpv : prevOf parts k = some parts[k - 1] := by unfold prevOf; rw [if_neg (by omega)]; exact List.getElem?_eq_getElem hk1
      obtain ⟨x0, x1, x2, x3⟩ := (HAT.out.later hl6).get hk1
      have hxm := Hpm.out _ hpv
      have Hpe := Lib.hid (Hjoin.out parts[k - 1] Hlt.out (by omega))
      have HJ := Lib.hid (fun W (hW : Later w W) => ref38_joined Q qc len polys parts[k - 1] ⟨(n : Int), pb, pc, pd⟩ W (hps.later hW) hpl hxm)
      have Hbad2 := Lib.hid (show partErr len wd polys rs lots lot (some parts[k - 1]) ⟨(n : Int), pb, pc, pd⟩ ≠ 0 → R = partErr len wd polys rs lots lot (some parts[k - 1]) ⟨(n : Int), pb, pc, pd⟩ by have := Hbad.out; rw [hpv] at this; exact this)
      have Hgood2 := Lib.hid (show partErr len wd polys rs lots lot (some parts[k - 1]) ⟨(n : Int), pb, pc, pd⟩ = 0 → _ by have := Hgood.out; rw [hpv] at this; exact this)
      generalize parts[k - 1] = x at *
      obtain ⟨xa, xb, xc, xd⟩ := x
      unfold Qd.agg at HJ
      simp only [] at x0 x1 x2 x3 HJ
      have zx := World.block_lt_of_cell? _ _ x0
      have dk0 : ((k : Int) == 0) = false := by rw [beq_eq_false_iff_ne]; omega
      have dk1 : decide ((0 : Int) < (k : Int)) = true := by simp; omega
      have j2 : IntKind.i64.wrap ((k : Int) - 1) = ((k - 1 : Nat) : Int) := by rw [IntWalk.i64_in _ (by omega)]; omega
      have j3 : (0 : Int) ≤ ((k - 1 : Nat) : Int) := by omega
      have j4 : ((k - 1 : Nat) : Int) < (parts.length : Int) := by omega
      clear hpv hxm hk1
      generalize k - 1 = km at *
      rcases hj : joinsB len polys ⟨xa, xb, xc, xd⟩ ⟨(n : Int), pb, pc, pd⟩ with _ | _
      ·rw [hj] at HJ
       have HRv := Lib.hid (show R = 20 by rw [Hbad2.out (by rw [Hpe.out, hj]; decide), Hpe.out, hj]; rfl)
       clear hj
       refine wp_region_held_drew (S := (fun w' : World => (∀ a : Addr, (W6.cell? a).isSome = true → w'.cell? a = W6.cell? a) ∧ Later W6 w')) (by kernel_rfl) (keep_init _) (fun hHeld => ?_)
       refine take_at (i := 0) (d := 66) (v := ?_) rfl rfl (by kernel_rfl) (by kernel_rfl) (by kernel_rfl) (fun _ _ _ h => h) (by rfl) ?_ (by assumption) ?_
       rotate_left
       ·(intro w hSw; (try dsimp only at hSw); go_simp; (try with_reducible rfl))
       simp only [Act.put, lsA, lsZ, lsS]
       refine take_at (i := 1) (d := 67) (v := ?_) rfl rfl (by kernel_rfl) (by kernel_rfl) (by kernel_rfl) (fun _ _ _ h => h) (by rfl) ?_ (by assumption) ?_
       rotate_left
       ·(intro w hSw; (try dsimp only at hSw); go_simp; (try with_reducible rfl))
       simp only [Act.put, lsA, lsZ, lsS]
       refine take_at (i := 2) (d := 68) (v := ?_) rfl rfl (by kernel_rfl) (by kernel_rfl) (by kernel_rfl) (fun _ _ _ h => h) (by rfl) ?_ (by assumption) ?_
       rotate_left
       ·(intro w hSw; (try dsimp only at hSw); go_simp; (try with_reducible rfl))
       simp only [Act.put, lsA, lsZ, lsS]
       refine skip_at (i := 3) (d := 69) rfl rfl (by kernel_rfl) (by kernel_rfl) (by kernel_rfl) (fun _ _ _ h => h) (by rfl) (by assumption) ?_
       simp only [Act.put, lsA, lsZ, lsS]
       refine skip_at (i := 4) (d := 70) rfl rfl (by kernel_rfl) (by kernel_rfl) (by kernel_rfl) (fun _ _ _ h => h) (by rfl) (by assumption) ?_
       simp only [Act.put, lsA, lsZ, lsS]
       refine skip_at (i := 5) (d := 71) rfl rfl (by kernel_rfl) (by kernel_rfl) (by kernel_rfl) (fun _ _ _ h => h) (by rfl) (by assumption) ?_
       simp only [Act.put, lsA, lsZ, lsS]
       refine take_at (i := 6) (d := 72) (v := ?_) rfl rfl (by kernel_rfl) (by kernel_rfl) (by kernel_rfl) (fun _ _ _ h => h) (by rfl) ?_ (by assumption) ?_
       rotate_left
       ·(intro w hSw; (try dsimp only at hSw); go_simp; (try with_reducible rfl))
       simp only [Act.put, lsA, lsZ, lsS]
       refine take_at (i := 7) (d := 73) (v := ?_) rfl rfl (by kernel_rfl) (by kernel_rfl) (by kernel_rfl) (fun _ _ _ h => h) (by rfl) ?_ (by assumption) ?_
       rotate_left
       ·(intro w hSw; (try dsimp only at hSw); go_simp; (try with_reducible rfl))
       simp only [Act.put, lsA, lsZ, lsS]
       refine take_at (i := 8) (d := 74) (v := ?_) rfl rfl (by kernel_rfl) (by kernel_rfl) (by kernel_rfl) (fun _ _ _ h => h) (by rfl) ?_ (by assumption) ?_
       rotate_left
       ·(intro w hSw; (try dsimp only at hSw); go_simp; (try with_reducible rfl))
       simp only [Act.put, lsA, lsZ, lsS]
       refine take_at (i := 9) (d := 75) (v := ?_) rfl rfl (by kernel_rfl) (by kernel_rfl) (by kernel_rfl) (fun _ _ _ h => h) (by rfl) ?_ (by assumption) ?_
       rotate_left
       ·(intro w hSw; (try dsimp only at hSw); go_simp; (try with_reducible rfl))
       simp only [Act.put, lsA, lsZ, lsS]
       refine take_at (i := 10) (d := 76) (v := ?_) rfl rfl (by kernel_rfl) (by kernel_rfl) (by kernel_rfl) (fun _ _ _ h => h) (by rfl) ?_ (by assumption) ?_
       rotate_left
       ·(intro w hSw; (try dsimp only at hSw); go_simp; (try with_reducible rfl))
       simp only [Act.put, lsA, lsZ, lsS]
       refine take_at (i := 11) (d := 77) (v := ?_) rfl rfl (by kernel_rfl) (by kernel_rfl) (by kernel_rfl) (fun _ _ _ h => h) (by rfl) ?_ (by assumption) ?_
       rotate_left
       ·(intro w hSw; (try dsimp only at hSw); go_simp; (try with_reducible rfl))
       simp only [Act.put, lsA, lsZ, lsS]
       refine take_at (i := 12) (d := 78) (v := ?_) rfl rfl (by kernel_rfl) (by kernel_rfl) (by kernel_rfl) (fun _ _ _ h => h) (by rfl) ?_ (by assumption) ?_
       rotate_left
       ·(intro w hSw; (try dsimp only at hSw); go_simp; (try with_reducible rfl))
       simp only [Act.put, lsA, lsZ, lsS]
       refine take_at (i := 13) (d := 79) (v := ?_) rfl rfl (by kernel_rfl) (by kernel_rfl) (by kernel_rfl) (fun _ _ _ h => h) (by rfl) ?_ (by assumption) ?_
       rotate_left
       ·(intro w hSw; (try dsimp only at hSw); go_simp; (try with_reducible rfl))
       simp only [Act.put, lsA, lsZ, lsS]
       refine take_at (i := 14) (d := 80) (v := ?_) rfl rfl (by kernel_rfl) (by kernel_rfl) (by kernel_rfl) (fun _ _ _ h => h) (by rfl) ?_ (by assumption) ?_
       rotate_left
       ·(intro w hSw; (try dsimp only at hSw); go_simp; (try with_reducible rfl))
       simp only [Act.put, lsA, lsZ, lsS]
       refine take_at (i := 15) (d := 81) (v := ?_) rfl rfl (by kernel_rfl) (by kernel_rfl) (by kernel_rfl) (fun _ _ _ h => h) (by rfl) ?_ (by assumption) ?_
       rotate_left
       ·(intro w hSw; (try dsimp only at hSw); go_simp; (try with_reducible rfl))
       simp only [Act.put, lsA, lsZ, lsS]
       refine take_at (i := 16) (d := 82) (v := ?_) rfl rfl (by kernel_rfl) (by kernel_rfl) (by kernel_rfl) (fun _ _ _ h => h) (by rfl) ?_ (by assumption) ?_
       rotate_left
       ·(intro w hSw; (try dsimp only at hSw); go_simp; (try with_reducible rfl))
       simp only [Act.put, lsA, lsZ, lsS]
       refine take_at (i := 17) (d := 83) (v := ?_) rfl rfl (by kernel_rfl) (by kernel_rfl) (by kernel_rfl) (fun _ _ _ h => h) (by rfl) ?_ (by assumption) ?_
       rotate_left
       ·(intro w hSw; (try dsimp only at hSw); go_simp; (try with_reducible rfl))
       simp only [Act.put, lsA, lsZ, lsS]
       refine take_at (i := 18) (d := 84) (v := ?_) rfl rfl (by kernel_rfl) (by kernel_rfl) (by kernel_rfl) (fun _ _ _ h => h) (by rfl) ?_ (by assumption) ?_
       rotate_left
       ·(intro w hSw; (try dsimp only at hSw); go_simp; (try with_reducible rfl))
       simp only [Act.put, lsA, lsZ, lsS]
       refine take_at (i := 19) (d := 85) (v := ?_) rfl rfl (by kernel_rfl) (by kernel_rfl) (by kernel_rfl) (fun _ _ _ h => h) (by rfl) ?_ (by assumption) ?_
       rotate_left
       ·(intro w hSw; (try dsimp only at hSw); go_simp; (try with_reducible rfl))
       simp only [Act.put, lsA, lsZ, lsS]
       refine take_at (i := 20) (d := 86) (v := ?_) rfl rfl (by kernel_rfl) (by kernel_rfl) (by kernel_rfl) (fun _ _ _ h => h) (by rfl) ?_ (by assumption) ?_
       rotate_left
       ·(intro w hSw; (try dsimp only at hSw); go_simp; (try with_reducible rfl))
       simp only [Act.put, lsA, lsZ, lsS]
       refine call_at (i := 21) (d := 87) (f := 128) (args := #[.int .i64 len, .slice Q polys.length qc, .agg #[.int .i64 xa, .int .i64 xb, .int .i64 xc, .int .i64 xd], .agg #[.int .i64 n, .int .i64 pb, .int .i64 pc, .int .i64 pd]]) (by kernel_rfl) rfl rfl (by rfl) (by go_simp) ?_
       refine (HJ.out _ (hlw6.trans (Later.refl W6).drew)).mono ?_
       rintro e w1 ⟨rfl, hb1⟩
       refine ⟨_, rfl, keep_call hHeld hb1, fun hHeld => ?_⟩
       (try subst hb1)
       simp only [Act.put, lsA, lsZ, lsS]
       refine take_at (i := 22) (d := 88) (v := ?_) rfl rfl (by kernel_rfl) (by kernel_rfl) (by kernel_rfl) (fun _ _ _ h => h) (by rfl) ?_ (by assumption) ?_
       rotate_left
       ·(intro w hSw; (try dsimp only at hSw); go_simp; (try with_reducible rfl))
       simp only [Act.put, lsA, lsZ, lsS]
       refine take_at (i := 23) (d := 89) (v := ?_) rfl rfl (by kernel_rfl) (by kernel_rfl) (by kernel_rfl) (fun _ _ _ h => h) (by rfl) ?_ (by assumption) ?_
       rotate_left
       ·(intro w hSw; (try dsimp only at hSw); go_simp; (try with_reducible rfl))
       simp only [Act.put, lsA, lsZ, lsS]
       refine take_at (i := 24) (d := 90) (v := ?_) rfl rfl (by kernel_rfl) (by kernel_rfl) (by kernel_rfl) (fun _ _ _ h => h) (by rfl) ?_ (by assumption) ?_
       rotate_left
       ·(intro w hSw; (try dsimp only at hSw); go_simp; (try with_reducible rfl))
       simp only [Act.put, lsA, lsZ, lsS]
       refine take_at (i := 25) (d := 65) (v := ?_) rfl rfl (by kernel_rfl) (by kernel_rfl) (by kernel_rfl) (fun _ _ _ h => h) (by rfl) ?_ (by assumption) ?_
       rotate_left
       ·(intro w hSw; (try dsimp only at hSw); go_simp; (try with_reducible rfl))
       simp only [Act.put, lsA, lsZ, lsS]
       refine wpAnyH_done (by kernel_rfl) ?_ _
       go_wp2
       go_ret
       exact ⟨ret_int HRv.out.symm, hlw6.trans hHeld.2⟩
      ·rw [hj] at HJ
       have HRv := Lib.hid (show R = plyGo len wd polys rs lots lot (prevOf parts (k + 1)) (parts.drop (k + 1)) by rw [Hprev.out]; exact Hgood2.out (by rw [Hpe.out, hj]; rfl))
       clear hj
       refine wp_region_held_drew (S := (fun w' : World => (∀ a : Addr, (W6.cell? a).isSome = true → w'.cell? a = W6.cell? a) ∧ Later W6 w')) (by kernel_rfl) (keep_init _) (fun hHeld => ?_)
       refine take_at (i := 0) (d := 66) (v := ?_) rfl rfl (by kernel_rfl) (by kernel_rfl) (by kernel_rfl) (fun _ _ _ h => h) (by rfl) ?_ (by assumption) ?_
       rotate_left
       ·(intro w hSw; (try dsimp only at hSw); go_simp; (try with_reducible rfl))
       simp only [Act.put, lsA, lsZ, lsS]
       refine take_at (i := 1) (d := 67) (v := ?_) rfl rfl (by kernel_rfl) (by kernel_rfl) (by kernel_rfl) (fun _ _ _ h => h) (by rfl) ?_ (by assumption) ?_
       rotate_left
       ·(intro w hSw; (try dsimp only at hSw); go_simp; (try with_reducible rfl))
       simp only [Act.put, lsA, lsZ, lsS]
       refine take_at (i := 2) (d := 68) (v := ?_) rfl rfl (by kernel_rfl) (by kernel_rfl) (by kernel_rfl) (fun _ _ _ h => h) (by rfl) ?_ (by assumption) ?_
       rotate_left
       ·(intro w hSw; (try dsimp only at hSw); go_simp; (try with_reducible rfl))
       simp only [Act.put, lsA, lsZ, lsS]
       refine skip_at (i := 3) (d := 69) rfl rfl (by kernel_rfl) (by kernel_rfl) (by kernel_rfl) (fun _ _ _ h => h) (by rfl) (by assumption) ?_
       simp only [Act.put, lsA, lsZ, lsS]
       refine skip_at (i := 4) (d := 70) rfl rfl (by kernel_rfl) (by kernel_rfl) (by kernel_rfl) (fun _ _ _ h => h) (by rfl) (by assumption) ?_
       simp only [Act.put, lsA, lsZ, lsS]
       refine skip_at (i := 5) (d := 71) rfl rfl (by kernel_rfl) (by kernel_rfl) (by kernel_rfl) (fun _ _ _ h => h) (by rfl) (by assumption) ?_
       simp only [Act.put, lsA, lsZ, lsS]
       refine take_at (i := 6) (d := 72) (v := ?_) rfl rfl (by kernel_rfl) (by kernel_rfl) (by kernel_rfl) (fun _ _ _ h => h) (by rfl) ?_ (by assumption) ?_
       rotate_left
       ·(intro w hSw; (try dsimp only at hSw); go_simp; (try with_reducible rfl))
       simp only [Act.put, lsA, lsZ, lsS]
       refine take_at (i := 7) (d := 73) (v := ?_) rfl rfl (by kernel_rfl) (by kernel_rfl) (by kernel_rfl) (fun _ _ _ h => h) (by rfl) ?_ (by assumption) ?_
       rotate_left
       ·(intro w hSw; (try dsimp only at hSw); go_simp; (try with_reducible rfl))
       simp only [Act.put, lsA, lsZ, lsS]
       refine take_at (i := 8) (d := 74) (v := ?_) rfl rfl (by kernel_rfl) (by kernel_rfl) (by kernel_rfl) (fun _ _ _ h => h) (by rfl) ?_ (by assumption) ?_
       rotate_left
       ·(intro w hSw; (try dsimp only at hSw); go_simp; (try with_reducible rfl))
       simp only [Act.put, lsA, lsZ, lsS]
       refine take_at (i := 9) (d := 75) (v := ?_) rfl rfl (by kernel_rfl) (by kernel_rfl) (by kernel_rfl) (fun _ _ _ h => h) (by rfl) ?_ (by assumption) ?_
       rotate_left
       ·(intro w hSw; (try dsimp only at hSw); go_simp; (try with_reducible rfl))
       simp only [Act.put, lsA, lsZ, lsS]
       refine take_at (i := 10) (d := 76) (v := ?_) rfl rfl (by kernel_rfl) (by kernel_rfl) (by kernel_rfl) (fun _ _ _ h => h) (by rfl) ?_ (by assumption) ?_
       rotate_left
       ·(intro w hSw; (try dsimp only at hSw); go_simp; (try with_reducible rfl))
       simp only [Act.put, lsA, lsZ, lsS]
       refine take_at (i := 11) (d := 77) (v := ?_) rfl rfl (by kernel_rfl) (by kernel_rfl) (by kernel_rfl) (fun _ _ _ h => h) (by rfl) ?_ (by assumption) ?_
       rotate_left
       ·(intro w hSw; (try dsimp only at hSw); go_simp; (try with_reducible rfl))
       simp only [Act.put, lsA, lsZ, lsS]
       refine take_at (i := 12) (d := 78) (v := ?_) rfl rfl (by kernel_rfl) (by kernel_rfl) (by kernel_rfl) (fun _ _ _ h => h) (by rfl) ?_ (by assumption) ?_
       rotate_left
       ·(intro w hSw; (try dsimp only at hSw); go_simp; (try with_reducible rfl))
       simp only [Act.put, lsA, lsZ, lsS]
       refine take_at (i := 13) (d := 79) (v := ?_) rfl rfl (by kernel_rfl) (by kernel_rfl) (by kernel_rfl) (fun _ _ _ h => h) (by rfl) ?_ (by assumption) ?_
       rotate_left
       ·(intro w hSw; (try dsimp only at hSw); go_simp; (try with_reducible rfl))
       simp only [Act.put, lsA, lsZ, lsS]
       refine take_at (i := 14) (d := 80) (v := ?_) rfl rfl (by kernel_rfl) (by kernel_rfl) (by kernel_rfl) (fun _ _ _ h => h) (by rfl) ?_ (by assumption) ?_
       rotate_left
       ·(intro w hSw; (try dsimp only at hSw); go_simp; (try with_reducible rfl))
       simp only [Act.put, lsA, lsZ, lsS]
       refine take_at (i := 15) (d := 81) (v := ?_) rfl rfl (by kernel_rfl) (by kernel_rfl) (by kernel_rfl) (fun _ _ _ h => h) (by rfl) ?_ (by assumption) ?_
       rotate_left
       ·(intro w hSw; (try dsimp only at hSw); go_simp; (try with_reducible rfl))
       simp only [Act.put, lsA, lsZ, lsS]
       refine take_at (i := 16) (d := 82) (v := ?_) rfl rfl (by kernel_rfl) (by kernel_rfl) (by kernel_rfl) (fun _ _ _ h => h) (by rfl) ?_ (by assumption) ?_
       rotate_left
       ·(intro w hSw; (try dsimp only at hSw); go_simp; (try with_reducible rfl))
       simp only [Act.put, lsA, lsZ, lsS]
       refine take_at (i := 17) (d := 83) (v := ?_) rfl rfl (by kernel_rfl) (by kernel_rfl) (by kernel_rfl) (fun _ _ _ h => h) (by rfl) ?_ (by assumption) ?_
       rotate_left
       ·(intro w hSw; (try dsimp only at hSw); go_simp; (try with_reducible rfl))
       simp only [Act.put, lsA, lsZ, lsS]
       refine take_at (i := 18) (d := 84) (v := ?_) rfl rfl (by kernel_rfl) (by kernel_rfl) (by kernel_rfl) (fun _ _ _ h => h) (by rfl) ?_ (by assumption) ?_
       rotate_left
       ·(intro w hSw; (try dsimp only at hSw); go_simp; (try with_reducible rfl))
       simp only [Act.put, lsA, lsZ, lsS]
       refine take_at (i := 19) (d := 85) (v := ?_) rfl rfl (by kernel_rfl) (by kernel_rfl) (by kernel_rfl) (fun _ _ _ h => h) (by rfl) ?_ (by assumption) ?_
       rotate_left
       ·(intro w hSw; (try dsimp only at hSw); go_simp; (try with_reducible rfl))
       simp only [Act.put, lsA, lsZ, lsS]
       refine take_at (i := 20) (d := 86) (v := ?_) rfl rfl (by kernel_rfl) (by kernel_rfl) (by kernel_rfl) (fun _ _ _ h => h) (by rfl) ?_ (by assumption) ?_
       rotate_left
       ·(intro w hSw; (try dsimp only at hSw); go_simp; (try with_reducible rfl))
       simp only [Act.put, lsA, lsZ, lsS]
       refine call_at (i := 21) (d := 87) (f := 128) (args := #[.int .i64 len, .slice Q polys.length qc, .agg #[.int .i64 xa, .int .i64 xb, .int .i64 xc, .int .i64 xd], .agg #[.int .i64 n, .int .i64 pb, .int .i64 pc, .int .i64 pd]]) (by kernel_rfl) rfl rfl (by rfl) (by go_simp) ?_
       refine (HJ.out _ (hlw6.trans (Later.refl W6).drew)).mono ?_
       rintro e w1 ⟨rfl, hb1⟩
       refine ⟨_, rfl, keep_call hHeld hb1, fun hHeld => ?_⟩
       (try subst hb1)
       simp only [Act.put, lsA, lsZ, lsS]
       refine take_at (i := 22) (d := 88) (v := ?_) rfl rfl (by kernel_rfl) (by kernel_rfl) (by kernel_rfl) (fun _ _ _ h => h) (by rfl) ?_ (by assumption) ?_
       rotate_left
       ·(intro w hSw; (try dsimp only at hSw); go_simp; (try with_reducible rfl))
       simp only [Act.put, lsA, lsZ, lsS]
       refine take_at (i := 23) (d := 89) (v := ?_) rfl rfl (by kernel_rfl) (by kernel_rfl) (by kernel_rfl) (fun _ _ _ h => h) (by rfl) ?_ (by assumption) ?_
       rotate_left
       ·(intro w hSw; (try dsimp only at hSw); go_simp; (try with_reducible rfl))
       simp only [Act.put, lsA, lsZ, lsS]
       refine take_at (i := 24) (d := 90) (v := ?_) rfl rfl (by kernel_rfl) (by kernel_rfl) (by kernel_rfl) (fun _ _ _ h => h) (by rfl) ?_ (by assumption) ?_
       rotate_left
       ·(intro w hSw; (try dsimp only at hSw); go_simp; (try with_reducible rfl))
       simp only [Act.put, lsA, lsZ, lsS]
       refine take_at (i := 25) (d := 65) (v := ?_) rfl rfl (by kernel_rfl) (by kernel_rfl) (by kernel_rfl) (fun _ _ _ h => h) (by rfl) ?_ (by assumption) ?_
       rotate_left
       ·(intro w hSw; (try dsimp only at hSw); go_simp; (try with_reducible rfl))
       simp only [Act.put, lsA, lsZ, lsS]
       refine wpAnyH_done (by kernel_rfl) ?_ _
       go_wp2
       go_roundw
       case rel => exact ⟨k + 1, by omega, by go_num, HRv.out, (fun q h => by rw [Hprev.out] at h; cases h; exact HQM.out), hlW6.trans hHeld.2⟩
       case measure => simp [intOf]; omega
   ·have dl : (lt != lot) = true := by simpa using hlot
    have HRv := Lib.hid (show R = 16 by rw [Hbad.out (by rw [Hlot.out hlot]; decide), Hlot.out hlot])
    go_quiet (fail)
    go_wp2
    go_ret
    exact ⟨ret_int HRv.out.symm, hlw5.trans (by repeat' (with_reducible first | exact .refl _ | assumption | refine .drew ?_ | refine .drewN ?_ _ | refine .alloc ?_ _ | refine .put ?_ (by omega) _ | refine .trans ?_ (by assumption)))⟩
  ·have hke : k = parts.length := by omega
   subst hke
   have hk1 : parts.length - 1 < parts.length := by omega
   have hpv : prevOf parts parts.length = some parts[parts.length - 1] := by unfold prevOf; rw [if_neg (by omega)]; exact List.getElem?_eq_getElem hk1
   obtain ⟨bq, oq, rfl, hat⟩ := (hq.later hlw) (by omega)
   obtain ⟨x0, x1, x2, x3⟩ := hat.get hk1
   have hxm := Hpm.out _ hpv
   have HE := Lib.hid (fun W => ref38_End parts[parts.length - 1] W hxm)
   have Hv := Lib.hid (show R = if endQ parts[parts.length - 1] ≠ len then 20 else 0 by rw [He.out, hpv, List.drop_length]; rfl)
   generalize parts[parts.length - 1] = x at *
   generalize endQ x = ex at *
   obtain ⟨xa, xb, xc, xd⟩ := x
   unfold Qd.agg at HE
   simp only [] at x0 x1 x2 x3 HE
   have zx := World.block_lt_of_cell? _ _ x0
   have j2 : IntKind.i64.wrap ((parts.length : Int) - 1) = ((parts.length - 1 : Nat) : Int) := by rw [IntWalk.i64_in _ (by omega)]; omega
   have j3 : (0 : Int) ≤ ((parts.length - 1 : Nat) : Int) := by omega
   have j4 : ((parts.length - 1 : Nat) : Int) < (parts.length : Int) := by omega
   clear hpv hxm hat hk1
   generalize parts.length - 1 = km at *
   by_cases hex : ex = len
   ·have dex : (ex != len) = false := by simpa using hex
    have HRv := Lib.hid (show R = 0 by rw [Hv.out, if_neg (by simpa using hex)])
    have Hex := Lib.hid hex
    clear hex
    go_wp2
    go_region_held3 (fun w' : World => (∀ a : Addr, (wr.cell? a).isSome = true → w'.cell? a = wr.cell? a) ∧ Later wr w') (first | assumption | exact keep_call (by assumption) (by assumption) | exact keep_call (by assumption) ((Later.refl _).alloc _) | exact keep_init _ | exact ⟨Later.keeps (by assumption), by assumption⟩) (first | (go_at_call 45; (with_reducible refine (HE.out _).mono ?_); rintro e w1 ⟨rfl, hb1⟩))
    all_goals
     rename_i hHw
     go_wp2
     go_ret
     exact ⟨ret_int HRv.out.symm, hlw.trans hHw.2⟩
   ·have dex : (ex != len) = true := by simpa using hex
    have HRv := Lib.hid (show R = 20 by rw [Hv.out, if_pos hex])
    go_wp2
    go_region_held3 (fun w' : World => (∀ a : Addr, (wr.cell? a).isSome = true → w'.cell? a = wr.cell? a) ∧ Later wr w') (first | assumption | exact keep_call (by assumption) (by assumption) | exact keep_call (by assumption) ((Later.refl _).alloc _) | exact keep_init _ | exact ⟨Later.keeps (by assumption), by assumption⟩) (first | (go_at_call 45; (with_reducible refine (HE.out _).mono ?_); rintro e w1 ⟨rfl, hb1⟩))
    all_goals
     rename_i hHw
     go_wp2
     go_ret
     exact ⟨ret_int HRv.out.symm, hlw.trans hHw.2⟩
end Go.Proofs.YtdhakoecjmaebaaGreat
namespace Go.Proofs.YtdhakoecjmaebaaGreat
open Go.RowKit
set_option linter.unusedSimpArgs false
set_option linter.unusedVariables false
theorem SrcAt.qds {w : World} {A : Option Addr} {l : List Qd} (h : Qds w A l) : SrcAt w A (l.flatMap qd4) := by
 intro ad had j u hu
 obtain ⟨i, k, a, h1, h2, rfl⟩ := flat_split qd4_len hu
 obtain ⟨b, o, e, hx⟩ := h (by have := (List.getElem?_eq_some_iff.1 h1).1; omega)
 rw [e] at had
 cases had
 obtain ⟨x0, x1, x2, x3⟩ := hx i a h1
 rw [add_plain, ← Nat.add_assoc]
 rcases k with _ | _ | _ | _ | k
 ·cases h2; exact x0
 ·cases h2; exact x1
 ·cases h2; exact x2
 ·cases h2; exact x3
 ·simp [qd4] at h2
def PartsPost (l : List Qd) (w : World) (e : Ending) (w' : World) : Prop := ∃ A c, e = .returned (.slice A l.length c) ∧ l.length ≤ c ∧ c ≤ maxLen ∧ Qds w' A l ∧ Later w w'
set_option maxHeartbeats 4000000 in
set_option maxRecDepth 100000 in
theorem ref38_all (P S1 S2 : Option Addr) (pc n1 c1 n2 c2 : Nat) (l0 l1 l2 l3 : Int) (ys : List Py) (w : World) (hy : Plys w P ys) (hyl : ys.length ≤ 1099511627776) (hal : (allP ys).length ≤ 60000) :
  Calls Tryz.prog 83 #[.agg #[.int .i64 l0, .int .i64 l1, .int .i64 l2, .int .i64 l3, .slice S1 n1 c1, .slice S2 n2 c2, .slice P ys.length pc]] w (PartsPost (allP ys) w) := by
 go_enter Tryz.func83, Tryz.ntmps83
 go_upto_region 3 with fail
 refine name_world (fun W1 hW1 => ?_)
 have hl1 : Later w W1 := by rw [hW1]; exact (by repeat' (with_reducible first | exact .refl _ | assumption | refine .drew ?_ | refine .drewN ?_ _ | refine .alloc ?_ _ | refine .put ?_ (by omega) _ | refine .trans ?_ (by assumption)))
 have D1 : Blk W1 w.heap.size 70 #[.int .i64 l0, .int .i64 l1, .int .i64 l2, .int .i64 l3, .slice S1 n1 c1, .slice S2 n2 c2, .slice P ys.length pc] := by rw [hW1]; exact (by repeat' (with_reducible first | assumption | (refine Blk.newAt ?_; simp; done) | refine Blk.alloc ?_ _ | refine Blk.drew ?_ | refine Blk.drewN ?_ _ | refine Blk.later ?_ (by assumption)))
 clear hW1
 go_loopw [3, 4] (fun v iv wr => ∃ (k : Nat) (acc : List Qd), k ≤ ys.length ∧ iv = .int .i64 k ∧ acc = allP (ys.take k) ∧ OwnR wr W1.heap.size 92 4 qd4 v acc ∧ Later W1 wr) (fun _ iv _ => ys.length - (intOf iv).toNat)
 case atStart => exact ⟨0, [], by omega, rfl, rfl, World.ownsRow_nil _ _ _ _, Later.refl _⟩
 case round =>
  obtain ⟨k, acc, hk, rfl, he, ho, hb⟩ := hrel
  have He := Lib.hid he
  have Ho := Lib.hid ho
  clear he ho
  have m6 : wr.cell? ⟨w.heap.size, 6, none⟩ = some (.slice P ys.length pc) := (D1.later hb).cell 6
  have zm := (D1.later hb).lt
  by_cases hlt : k < ys.length
  ·obtain ⟨bb, ob, rfl, e1, e2, hok⟩ := (Plys.later hy (hl1.trans hb)).at_ hlt
   have Htk := Lib.hid (allP_take hlt)
   have Hlen := Lib.hid (show acc.length + ys[k].parts.length ≤ 60000 by
    have h1 := allP_take hlt
    have h2 : (allP (ys.take (k + 1))).length ≤ (allP ys).length := by
     have h3 : allP ys = allP (ys.take (k + 1)) ++ allP (ys.drop (k + 1)) := by
      unfold allP
      rw [← List.flatMap_append, List.take_append_drop]
     rw [h3, List.length_append]
     omega
    rw [h1, List.length_append] at h2
    rw [He.out]
    omega)
   generalize ys[k] = y at *
   obtain ⟨lot, pa, pc', parts⟩ := y
   simp only [] at e1 e2 hok Htk Hlen
   have zb := World.block_lt_of_cell? _ _ e1
   have hQ : Qds wr pa parts := hok.2.2.1
   have HS := Lib.hid (SrcAt.qds hQ)
   have HA := Lib.hid (show pa = none → parts.length = 0 from fun h => by
    rcases Nat.eq_zero_or_pos parts.length with h0 | h0
    ·exact h0
    ·obtain ⟨b, o, e, _⟩ := hQ h0
     rw [h] at e; cases e)
   clear hok hQ
   go_wp2_with (at_builtin; refine wpList_append_rec slt_part qd4_len qd4_one rfl (.tmp 12) (.tmp 18) rfl (base := W1.heap.size) (l := acc) rfl Ho.out (A := pa) (c := pc') parts rfl HA.out HS.out (by have := Hlen.out; omega) hb.size ?_; intro A3 c3' w3 ho3 hg3)
   have hl3 : Later W1 w3 := Later.grown hb hg3 (fun g hg => (World.ownsRow.lt Ho.out g hg).1)
   clear hg3
   have Ho3 := Lib.hid ho3
   clear ho3
   simp only [List.length_append] at Ho3
   go_roundw
   case rel => exact ⟨k + 1, acc ++ parts, by omega, by go_num, by rw [Htk.out, He.out], Ho3.out, hl3⟩
   case measure => simp [intOf]; omega
  ·have H0 := Lib.hid (show acc = allP ys by rw [He.out, List.take_of_length_le (by omega)])
   obtain ⟨A6, c6, e6, p1, p2, p3⟩ := Ho.out.qds
   subst e6
   go_wp2
   go_ret
   exact ⟨A6, c6, by rw [← H0.out] <;> rfl, by rw [← H0.out]; exact p1, p2, by rw [← H0.out]; exact p3, hl1.trans hb⟩
set_option maxHeartbeats 4000000 in
set_option maxRecDepth 100000 in
theorem ref38_Check (Q C L S1 S2 P : Option Addr) (qc cc lc n1 c1 n2 c2 pc : Nat) (len wd rx ry : Int) (polys : List (List Pt)) (rs : List Rl) (lots : List Int) (ys : List Py) (w : World)
  (hps : Polys w Q polys) (hpl : ∀ p ∈ polys, p.length ≤ 1099511627776) (hr : Rolls w C rs) (hrl : rs.length ≤ 1099511627776) (hL : Ints w L lots) (hll : lots.length ≤ 9223372036854775807) (hy : Plys w P ys) (hyl : ys.length ≤ 1099511627776) (hpart : ∀ y ∈ ys, y.parts.length ≤ 1000) :
  Calls Tryz.prog 42 #[.agg #[.int .i64 len, .int .i64 wd, .int .i64 rx, .int .i64 ry, .slice S1 n1 c1, .slice S2 n2 c2, .slice P ys.length pc], .slice Q polys.length qc, .slice C rs.length cc, .slice L lots.length lc] w
   (Ret (.int .i64 (scheckR len wd polys rs lots (ys.map Py.pl))) w) := by
 have HK := Lib.hid (fun W (hW : Later w W) => ref38_begun Q C L S1 S2 qc cc lc lots.length n1 c1 n2 c2 len wd rx ry polys rs W (hps.later hW) hpl (hr.later hW) hrl hll)
 have Hsc1 := Lib.hid (sc_cloth (len := len) (wd := wd) (polys := polys) (rs := rs) (lots := lots) (ys := ys.map Py.pl))
 have Hsc2 := Lib.hid (sc_long (len := len) (wd := wd) (polys := polys) (rs := rs) (lots := lots) (ys := ys.map Py.pl))
 have Hsc3 := Lib.hid (sc_ply (len := len) (wd := wd) (polys := polys) (rs := rs) (lots := lots) (ys := ys.map Py.pl))
 have Hsc4 := Lib.hid (sc_twice (len := len) (wd := wd) (polys := polys) (rs := rs) (lots := lots) (ys := ys.map Py.pl))
 have Hsc5 := Lib.hid (sc_ok (len := len) (wd := wd) (polys := polys) (rs := rs) (lots := lots) (ys := ys.map Py.pl))
 have Hcz := Lib.hid (cloth_zero (len := len) (wd := wd) (polys := polys) (rs := rs) (nl := lots.length))
 generalize scheckR len wd polys rs lots (ys.map Py.pl) = R at *
 generalize chkClothR len wd polys rs lots.length = er at *
 have Hsc2 := Lib.hid (show er = 0 → 40 < ys.length → R = 5 from fun h h1 => Hsc2.out h (by rw [List.length_map]; exact h1))
 have Hsc3 := Lib.hid (show er = 0 → ¬ 40 < ys.length → plysErr len wd polys rs lots (ys.map Py.pl) ≠ 0 → R = plysErr len wd polys rs lots (ys.map Py.pl) from fun h h1 => Hsc3.out h (by rw [List.length_map]; exact h1))
 have Hsc4 := Lib.hid (show er = 0 → ¬ 40 < ys.length → plysErr len wd polys rs lots (ys.map Py.pl) = 0 → ¬ NoTwice (allP ys) → R = 14 from fun h h1 h2 h3 => Hsc4.out h (by rw [List.length_map]; exact h1) h2 (by rw [allP_pl]; exact h3))
 have Hsc5 := Lib.hid (show er = 0 → ¬ 40 < ys.length → plysErr len wd polys rs lots (ys.map Py.pl) = 0 → NoTwice (allP ys) → R = 0 from fun h h1 h2 h3 => Hsc5.out h (by rw [List.length_map]; exact h1) h2 (by rw [allP_pl]; exact h3))
 rcases Classical.em (er = 0) with h0 | h0
 ·subst h0
  obtain ⟨hext, hcr, hw1, hw2⟩ := Hcz.out rfl
  obtain ⟨hl1, hl2, _⟩ := ext_zero hext
  obtain ⟨hr20, hrz, hnl⟩ := chkRolls_zero hcr
  have hln : ∀ r ∈ rs, r.ln ≤ 1048576 := fun r hr => (roll_ok (hrz r hr)).2.2.2.1.2
  have Hnl := Lib.hid hnl
  clear hnl hcr hrz hext Hcz
  by_cases h40 : 40 < ys.length
  ·have d40 : decide ((40 : Int) < (ys.length : Int)) = true := by simp; omega
   have HRv := Lib.hid (Hsc2.out (by first | trivial | rfl) h40)
   go_enter Tryz.func42, Tryz.ntmps42
   go_wp2_with (first | (go_at_call 80; (with_reducible refine (HK.out _ (by repeat' (with_reducible first | exact .refl _ | assumption | refine .drew ?_ | refine .drewN ?_ _ | refine .alloc ?_ _ | refine .put ?_ (by omega) _ | refine .trans ?_ (by assumption)))).mono ?_); rintro e w1 ⟨rfl, hb1⟩; have c6 : w1.cell? ⟨w.heap.size, 6, none⟩ = some (.slice P ys.length pc) := hb1.cell (by simp [go_sem])))
   go_ret
   exact ⟨ret_int HRv.out.symm, (by repeat' (with_reducible first | exact .refl _ | assumption | refine .drew ?_ | refine .drewN ?_ _ | refine .alloc ?_ _ | refine .put ?_ (by omega) _ | refine .trans ?_ (by assumption)))⟩
  ·have d40 : decide ((40 : Int) < (ys.length : Int)) = false := by simp; omega
   have h40' : ys.length ≤ 40 := by omega
   have hal : (allP ys).length ≤ 60000 := by have := allP_len hpart; omega
   have HU := Lib.hid (fun W (hW : Later w W) => ref38_all P S1 S2 pc n1 c1 n2 c2 len wd rx ry ys W (hy.later hW) (by omega) hal)
   go_enter Tryz.func42, Tryz.ntmps42
   go_upto_region 6 with (first | (go_at_call 80; (with_reducible refine (HK.out _ (by repeat' (with_reducible first | exact .refl _ | assumption | refine .drew ?_ | refine .drewN ?_ _ | refine .alloc ?_ _ | refine .put ?_ (by omega) _ | refine .trans ?_ (by assumption)))).mono ?_); rintro e w1 ⟨rfl, hb1⟩; have c6 : w1.cell? ⟨w.heap.size, 6, none⟩ = some (.slice P ys.length pc) := hb1.cell (by simp [go_sem])))
   have D4 : Blk w1 w.heap.size 70 #[.int .i64 len, .int .i64 wd, .int .i64 rx, .int .i64 ry, .slice S1 n1 c1, .slice S2 n2 c2, .slice P ys.length pc] := Blk.later (by repeat' (with_reducible first | assumption | (refine Blk.newAt ?_; simp; done) | refine Blk.alloc ?_ _ | refine Blk.drew ?_ | refine Blk.drewN ?_ _ | refine Blk.later ?_ (by assumption))) hb1
   have hl1w : Later w w1 := (by repeat' (with_reducible first | exact .refl _ | assumption | refine .drew ?_ | refine .drewN ?_ _ | refine .alloc ?_ _ | refine .put ?_ (by omega) _ | refine .trans ?_ (by assumption)))
   clear hb1 HK d40
   generalize w.heap.size = g4 at *
   go_wp2
   go_loopw [10] (fun iv wr => ∃ k : Nat, k ≤ ys.length ∧ iv = .int .i64 k ∧ plysErr len wd polys rs lots (ys.map Py.pl) = plysErr len wd polys rs lots ((ys.drop k).map Py.pl) ∧ Later w1 wr) (fun iv _ => ys.length - (intOf iv).toNat)
   case atStart => exact ⟨0, by omega, rfl, rfl, Later.refl _⟩
   case round =>
    obtain ⟨k, hk, rfl, he, hb⟩ := hrel
    have He := Lib.hid he
    clear he
    have hlw : Later w wr := hl1w.trans hb
    have m0 : wr.cell? ⟨g4, 0, none⟩ = some (.int .i64 len) := hb.cell (D4.cell 0)
    have m1 : wr.cell? ⟨g4, 1, none⟩ = some (.int .i64 wd) := hb.cell (D4.cell 1)
    have m2 : wr.cell? ⟨g4, 2, none⟩ = some (.int .i64 rx) := hb.cell (D4.cell 2)
    have m3 : wr.cell? ⟨g4, 3, none⟩ = some (.int .i64 ry) := hb.cell (D4.cell 3)
    have m4 : wr.cell? ⟨g4, 4, none⟩ = some (.slice S1 n1 c1) := hb.cell (D4.cell 4)
    have m5 : wr.cell? ⟨g4, 5, none⟩ = some (.slice S2 n2 c2) := hb.cell (D4.cell 5)
    have m6 : wr.cell? ⟨g4, 6, none⟩ = some (.slice P ys.length pc) := hb.cell (D4.cell 6)
    have z4 : g4 < wr.heap.size := World.block_lt_of_cell? _ _ m0
    by_cases hlt : k < ys.length
    ·have hokw : PyOk w ys[k] := by obtain ⟨_, _, _, _, _, h⟩ := hy.at_ hlt; exact h
     obtain ⟨hpc, hpm, hqd, hqi⟩ := hokw
     obtain ⟨bb, ob, rfl, e1, e2, _⟩ := (hy.later hlw).at_ hlt
     have hbz : bb < wr.heap.size := World.block_lt_of_cell? _ _ e1
     have Hd := Lib.hid (drop_cons' ys k hlt)
     have hpn := hpart _ (List.getElem_mem hlt)
     generalize ys[k] = y at *
     obtain ⟨lot, pa, pc', parts⟩ := y
     simp only [] at e1 e2 hpc hpm hqd hpn Hd
     have HP := Lib.hid (fun W (hW : Later w W) => ref38_plied Q C L S1 S2 pa qc cc lc n1 c1 n2 c2 pc' len wd rx ry lot polys rs lots parts W (hps.later hW) hpl (hr.later hW) hr20 (hL.later hW) Hnl.out (hqd.later hW) (by omega) ⟨hl1, hl2⟩ hln)
     have Hb := Lib.hid (fun l => plys_bad (len := len) (wd := wd) (polys := polys) (rs := rs) (lots := lots) (y := (lot, parts)) (l := l))
     have Hg := Lib.hid (fun l => plys_good (len := len) (wd := wd) (polys := polys) (rs := rs) (lots := lots) (y := (lot, parts)) (l := l))
     generalize plyR len wd polys rs lots (lot, parts) = pe at *
     have Hd2 := Lib.hid (show (ys.drop k).map Py.pl = (lot, parts) :: (ys.drop (k + 1)).map Py.pl by rw [Hd.out]; rfl)
     rcases Classical.em (pe = 0) with h0 | h0
     ·subst h0
      go_wp2
      go_region_held3 (fun w' : World => (∀ a : Addr, (wr.cell? a).isSome = true → w'.cell? a = wr.cell? a) ∧ Later wr w') (first | assumption | exact keep_call (by assumption) (by assumption) | exact keep_call (by assumption) ((Later.refl _).alloc _) | exact keep_init _) (first | (go_at_call 81; (with_reducible refine (HP.out _ (hlw.trans (by (have hk := (by assumption : _ ∧ Later wr _).2); exact hk))).mono ?_); rintro e w5 ⟨rfl, hb5⟩))
      rename_i hHw
      go_wp2
      go_roundw
      case rel => exact ⟨k + 1, by omega, by go_num, by rw [He.out, Hd2.out, Hg.out _ (by first | trivial | rfl)], hb.trans hHw.2⟩
      case measure => simp [intOf]; omega
     ·have dn : (pe != 0) = true := by simpa using h0
      have HRv := Lib.hid (show R = pe by
       have e : plysErr len wd polys rs lots (ys.map Py.pl) = pe := by rw [He.out, Hd2.out, Hb.out _ h0]
       rw [Hsc3.out (by first | trivial | rfl) h40 (by rw [e]; exact h0), e])
      go_wp2
      go_region_held3 (fun w' : World => (∀ a : Addr, (wr.cell? a).isSome = true → w'.cell? a = wr.cell? a) ∧ Later wr w') (first | assumption | exact keep_call (by assumption) (by assumption) | exact keep_call (by assumption) ((Later.refl _).alloc _) | exact keep_init _) (first | (go_at_call 81; (with_reducible refine (HP.out _ (hlw.trans (by (have hk := (by assumption : _ ∧ Later wr _).2); exact hk))).mono ?_); rintro e w5 ⟨rfl, hb5⟩))
      rename_i hHw
      go_wp2
      go_ret
      exact ⟨ret_int HRv.out.symm, hlw.trans hHw.2⟩
    ·have hpz : plysErr len wd polys rs lots (ys.map Py.pl) = 0 := by rw [He.out, List.drop_eq_nil_of_le (by omega)]; rfl
     have Hpz := Lib.hid hpz
     clear hpz
     have HT := Lib.hid (fun A c W (hA : Qds W A (allP ys)) => ref38_twice A c (allP ys) W hA (by omega))
     by_cases hnt : NoTwice (allP ys)
     ·have HRv := Lib.hid (Hsc5.out (by first | trivial | rfl) h40 Hpz.out hnt)
      have htw : twiceB (allP ys) = false := by unfold twiceB; simp [hnt]
      rw [htw] at HT
      clear hnt htw
      go_wp2_with (first | (go_at_call 83; (with_reducible refine (HU.out _ (hlw.trans (by repeat' (with_reducible first | exact .refl _ | assumption | refine .drew ?_ | refine .drewN ?_ _ | refine .alloc ?_ _ | refine .put ?_ (by omega) _ | refine .trans ?_ (by assumption))))).mono ?_); rintro e w5 ⟨A5, c5, rfl, p1, p2, p3, hb5⟩) | (go_at_call 82; (with_reducible refine (HT.out A5 c5 _ (p3.later (by repeat' (with_reducible first | exact .refl _ | assumption | refine .drew ?_ | refine .drewN ?_ _ | refine .alloc ?_ _ | refine .put ?_ (by omega) _ | refine .trans ?_ (by assumption))))).mono ?_); rintro e w6 ⟨rfl, hb6⟩))
      go_ret
      exact ⟨ret_int HRv.out.symm, hlw.trans (by repeat' (with_reducible first | exact .refl _ | assumption | refine .drew ?_ | refine .drewN ?_ _ | refine .alloc ?_ _ | refine .put ?_ (by omega) _ | refine .trans ?_ (by assumption)))⟩
     ·have HRv := Lib.hid (Hsc4.out (by first | trivial | rfl) h40 Hpz.out hnt)
      have htw : twiceB (allP ys) = true := by unfold twiceB; simp [hnt]
      rw [htw] at HT
      clear hnt htw
      go_wp2_with (first | (go_at_call 83; (with_reducible refine (HU.out _ (hlw.trans (by repeat' (with_reducible first | exact .refl _ | assumption | refine .drew ?_ | refine .drewN ?_ _ | refine .alloc ?_ _ | refine .put ?_ (by omega) _ | refine .trans ?_ (by assumption))))).mono ?_); rintro e w5 ⟨A5, c5, rfl, p1, p2, p3, hb5⟩) | (go_at_call 82; (with_reducible refine (HT.out A5 c5 _ (p3.later (by repeat' (with_reducible first | exact .refl _ | assumption | refine .drew ?_ | refine .drewN ?_ _ | refine .alloc ?_ _ | refine .put ?_ (by omega) _ | refine .trans ?_ (by assumption))))).mono ?_); rintro e w6 ⟨rfl, hb6⟩))
      go_ret
      exact ⟨ret_int HRv.out.symm, hlw.trans (by repeat' (with_reducible first | exact .refl _ | assumption | refine .drew ?_ | refine .drewN ?_ _ | refine .alloc ?_ _ | refine .put ?_ (by omega) _ | refine .trans ?_ (by assumption)))⟩
 ·have dn : (er != 0) = true := by simpa using h0
  have HRv := Lib.hid (Hsc1.out h0)
  go_enter Tryz.func42, Tryz.ntmps42
  go_wp2_with (first | (go_at_call 80; (with_reducible refine (HK.out _ (by repeat' (with_reducible first | exact .refl _ | assumption | refine .drew ?_ | refine .drewN ?_ _ | refine .alloc ?_ _ | refine .put ?_ (by omega) _ | refine .trans ?_ (by assumption)))).mono ?_); rintro e w1 ⟨rfl, hb1⟩))
  go_ret
  exact ⟨ret_int HRv.out.symm, (by repeat' (with_reducible first | exact .refl _ | assumption | refine .drew ?_ | refine .drewN ?_ _ | refine .alloc ?_ _ | refine .put ?_ (by omega) _ | refine .trans ?_ (by assumption)))⟩
end Go.Proofs.YtdhakoecjmaebaaGreat
namespace Go.Proofs.YtdhakoecjmaebaaGreat
open Go.RowKit
set_option linter.unusedSimpArgs false
set_option linter.unusedVariables false
theorem OwnR.base {α : Type} {cells : α → List Value} {sz : Nat} {w : World} {b b' : Nat} {E : TypeId} {v : Value} {l : List α} (h : OwnR w b E sz cells v l) (hb : b' ≤ b) : OwnR w b' E sz cells v l := by
 refine ⟨h.1, ?_⟩
 rcases h.2 with ⟨h1, h2⟩ | ⟨g, cap, cur, hv, hbg, hg, r⟩
 ·exact .inl ⟨h1, h2⟩
 ·exact .inr ⟨g, cap, cur, hv, Nat.le_trans hb hbg, hg, r⟩
end Go.Proofs.YtdhakoecjmaebaaGreat
