/-
 The walks of spread.checkPly and spread.Check.
-/
import Derived.Test.YtdhakoecjmaebaaGreatZSprU
namespace Go.Proofs.YtdhakoecjmaebaaGreat
open Go.RowKit
set_option linter.unusedSimpArgs false
set_option linter.unusedVariables false
def prevOf (parts : List Qd) (k : Nat) : Option Qd := if k = 0 then none else parts[k - 1]?
section
variable {len wd : Int} {polys : List (List Pt)} {rs : List Rl} {lots : List Int} {lot : Int} {prev : Option Qd} {p : Qd} {l : List Qd}
theorem ply_bad (h : partErr len wd polys rs lots lot prev p ≠ 0) : plyGo len wd polys rs lots lot prev (p :: l) = partErr len wd polys rs lots lot prev p := by
 cases prev <;> rw [plyGo, if_pos h]
theorem ply_ok (h : partErr len wd polys rs lots lot prev p = 0) : plyGo len wd polys rs lots lot prev (p :: l) = plyGo len wd polys rs lots lot (some p) l := by
 cases prev <;> rw [plyGo, if_neg (by simpa using h)]
theorem pe_range (h : clothB p rs = false ∨ p.d < 0 ∨ len < p.d) : partErr len wd polys rs lots lot prev p = 3 := by unfold partErr; rw [if_pos h]
theorem pe_lot (h : ¬ (clothB p rs = false ∨ p.d < 0 ∨ len < p.d)) (h1 : gL lots p.a.toNat ≠ lot) : partErr len wd polys rs lots lot prev p = 16 := by unfold partErr; rw [if_neg h, if_pos h1]
theorem pe_wide (h : ¬ (clothB p rs = false ∨ p.d < 0 ∨ len < p.d)) (h1 : gL lots p.a.toNat = lot) (h2 : (grl rs p.a.toNat).wd < wd) : partErr len wd polys rs lots lot prev p = 13 := by unfold partErr; rw [if_neg h, if_neg (by simpa using h1), if_pos h2]
theorem pe_first (h : ¬ (clothB p rs = false ∨ p.d < 0 ∨ len < p.d)) (h1 : gL lots p.a.toNat = lot) (h2 : ¬ (grl rs p.a.toNat).wd < wd) : partErr len wd polys rs lots lot none p = if p.d ≠ 0 then 20 else 0 := by unfold partErr; rw [if_neg h, if_neg (by simpa using h1), if_neg h2]
theorem pe_join {q : Qd} (h : ¬ (clothB p rs = false ∨ p.d < 0 ∨ len < p.d)) (h1 : gL lots p.a.toNat = lot) (h2 : ¬ (grl rs p.a.toNat).wd < wd) : partErr len wd polys rs lots lot (some q) p = if joinsB len polys q p = true then 0 else 20 := by unfold partErr; rw [if_neg h, if_neg (by simpa using h1), if_neg h2]
end
set_option maxHeartbeats 8000000 in
set_option maxRecDepth 100000 in
theorem spread_checkPly (Q C L S1 S2 B : Option Addr) (qc cc lc n1 c1 n2 c2 cb : Nat) (len wd rx ry lot : Int) (polys : List (List Pt)) (rs : List Rl) (lots : List Int) (parts : List Qd) (w : World)
  (hps : Polys w Q polys) (hpl : ∀ p ∈ polys, p.length ≤ 1099511627776) (hr : Rolls w C rs) (hrl : rs.length ≤ 20) (hL : Ints w L lots) (hll : lots.length = rs.length) (hq : Qds w B parts) (hqn : parts.length ≤ 65536)
  (hlen : 1 ≤ len ∧ len ≤ 1048576) (hln : ∀ r ∈ rs, r.ln ≤ 1048576) :
  Calls Tryz.prog 77 #[.agg #[.int .i64 len, .int .i64 wd, .int .i64 rx, .int .i64 ry, .slice S1 n1 c1, .slice S2 n2 c2], .slice Q polys.length qc, .slice C rs.length cc, .slice L lots.length lc, .agg #[.int .i64 lot, .slice B parts.length cb]] w
   (Ret (.int .i64 (plyR len wd polys rs lots (lot, parts))) w) := by
 have HR := Lib.hid (show plyR len wd polys rs lots (lot, parts) = plyGo len wd polys rs lots lot none parts from rfl)
 generalize plyR len wd polys rs lots (lot, parts) = R at *
 have Hll := Lib.hid hll
 clear hll
 go_enter Tryz.func77, Tryz.ntmps77
 rcases Nat.eq_zero_or_pos parts.length with h0 | h0
 ·have d0 : ((parts.length : Int) == 0) = true := by simp [h0]
  have HR0 := Lib.hid (show R = 20 by rw [HR.out, List.eq_nil_of_length_eq_zero h0]; rfl)
  have H0 := Lib.hid h0
  clear h0
  go_wp2
  go_ret
  exact ⟨ret_int HR0.out.symm, (by repeat' (with_reducible first | exact .refl _ | assumption | refine .drew ?_ | refine .drewN ?_ _ | refine .alloc ?_ _ | refine .put ?_ (by omega) _ | refine .trans ?_ (by assumption)))⟩
 have d0 : ((parts.length : Int) == 0) = false := by rw [beq_eq_false_iff_ne]; omega
 go_wp2
 refine name_world (fun W0 hW0 => ?_)
 have hl0 : Later w W0 := by rw [hW0]; exact (by repeat' (with_reducible first | exact .refl _ | assumption | refine .drew ?_ | refine .drewN ?_ _ | refine .alloc ?_ _ | refine .put ?_ (by omega) _ | refine .trans ?_ (by assumption)))
 have D5 : Blk W0 w.heap.size 62 #[.int .i64 len, .int .i64 wd, .int .i64 rx, .int .i64 ry, .slice S1 n1 c1, .slice S2 n2 c2] := by rw [hW0]; exact (by repeat' (with_reducible first | assumption | (refine Blk.newAt ?_; simp; done) | refine Blk.alloc ?_ _ | refine Blk.drew ?_ | refine Blk.drewN ?_ _ | refine Blk.later ?_ (by assumption)))
 have D9 : Blk W0 (w.heap.size + 1) 95 #[.int .i64 lot, .slice B parts.length cb] := by rw [hW0]; exact (by repeat' (with_reducible first | assumption | (refine Blk.newAt ?_; simp; done) | refine Blk.alloc ?_ _ | refine Blk.drew ?_ | refine Blk.drewN ?_ _ | refine Blk.later ?_ (by assumption)))
 clear hW0 d0
 generalize w.heap.size = g5 at *
 go_loopw [20] (fun iv wr => ∃ k : Nat, k ≤ parts.length ∧ iv = .int .i64 k ∧ R = plyGo len wd polys rs lots lot (prevOf parts k) (parts.drop k) ∧ (∀ q, prevOf parts k = some q → QdM q) ∧ Later W0 wr) (fun iv _ => parts.length - (intOf iv).toNat)
 case atStart => exact ⟨0, by omega, rfl, HR.out, (fun q h => by cases h), Later.refl _⟩
 case round =>
  obtain ⟨k, hk, rfl, he, hpm, hb⟩ := hrel
  have He := Lib.hid he
  have Hpm := Lib.hid hpm
  clear he hpm
  have hlw : Later w wr := hl0.trans hb
  have m0 : wr.cell? ⟨g5, 0, none⟩ = some (.int .i64 len) := hb.cell (D5.cell 0)
  have m1 : wr.cell? ⟨g5, 1, none⟩ = some (.int .i64 wd) := hb.cell (D5.cell 1)
  have y0 : wr.cell? ⟨g5 + 1, 0, none⟩ = some (.int .i64 lot) := hb.cell (D9.cell 0)
  have y1 : wr.cell? ⟨g5 + 1, 1, none⟩ = some (.slice B parts.length cb) := hb.cell (D9.cell 1)
  have z5 : g5 < wr.heap.size := World.block_lt_of_cell? _ _ m0
  have z9 : g5 + 1 < wr.heap.size := World.block_lt_of_cell? _ _ y0
  by_cases hlt : k < parts.length
  ·obtain ⟨bq, oq, rfl, hat⟩ := (hq.later hlw) (by omega)
   obtain ⟨q0, q1, q2, q3⟩ := hat.get hlt
   have hbz : bq < wr.heap.size := World.block_lt_of_cell? _ _ q0
   have Hd := Lib.hid (drop_cons' parts k hlt)
   have Hat := Lib.hid hat
   have Hprev := Lib.hid (show prevOf parts (k + 1) = some parts[k] by unfold prevOf; rw [if_neg (by omega), Nat.add_sub_cancel]; exact List.getElem?_eq_getElem hlt)
   generalize hp : parts[k] = p at *
   clear hp hat
   have HC := Lib.hid (fun W (hW : Later w W) => spread_isCloth C cc p rs W (hr.later hW) (by omega))
   have Hbad := Lib.hid (fun (h : partErr len wd polys rs lots lot (prevOf parts k) p ≠ 0) => He.out.trans ((congrArg _ Hd.out).trans (ply_bad h)))
   have Hgood := Lib.hid (fun (h : partErr len wd polys rs lots lot (prevOf parts k) p = 0) => He.out.trans ((congrArg _ Hd.out).trans (ply_ok h)))
   have Hrange := Lib.hid (pe_range (len := len) (wd := wd) (polys := polys) (rs := rs) (lots := lots) (lot := lot) (prev := prevOf parts k) (p := p))
   have Hcb := Lib.hid (clothB_in (p := p) (rs := rs))
   obtain ⟨pa, pb, pc, pd⟩ := p
   unfold Qd.agg at HC
   simp only [] at q0 q1 q2 q3 HC Hcb Hrange
   rcases hcb : clothB ⟨pa, pb, pc, pd⟩ rs with _ | _
   ·rw [hcb] at HC
    have HRv := Lib.hid (show R = 3 by rw [Hbad.out (by rw [Hrange.out (.inl hcb)]; decide), Hrange.out (.inl hcb)])
    clear hcb
    go_wp2_with (first | (go_at_call 115; (with_reducible refine (HC.out _ (hlw.trans (by repeat' (with_reducible first | exact .refl _ | assumption | refine .drew ?_ | refine .drewN ?_ _ | refine .alloc ?_ _ | refine .put ?_ (by omega) _ | refine .trans ?_ (by assumption))))).mono ?_); rintro e w5 ⟨rfl, hb5⟩))
    go_ret
    exact ⟨ret_int HRv.out.symm, hlw.trans (by repeat' (with_reducible first | exact .refl _ | assumption | refine .drew ?_ | refine .drewN ?_ _ | refine .alloc ?_ _ | refine .put ?_ (by omega) _ | refine .trans ?_ (by assumption)))⟩
   rw [hcb] at HC
   obtain ⟨b1, b2, b3, b4, b5⟩ := Hcb.out hcb
   have Hcb2 := Lib.hid hcb
   clear hcb Hcb
   by_cases hd0 : pd < 0
   ·have dd0 : decide (pd < 0) = true := by simpa using hd0
    have HRv := Lib.hid (show R = 3 by rw [Hbad.out (by rw [Hrange.out (.inr (.inl hd0))]; decide), Hrange.out (.inr (.inl hd0))])
    go_wp2_with (first | (go_at_call 115; (with_reducible refine (HC.out _ (hlw.trans (by repeat' (with_reducible first | exact .refl _ | assumption | refine .drew ?_ | refine .drewN ?_ _ | refine .alloc ?_ _ | refine .put ?_ (by omega) _ | refine .trans ?_ (by assumption))))).mono ?_); rintro e w5 ⟨rfl, hb5⟩; have c3 : w5.cell? ⟨wr.heap.size, 3, none⟩ = some (.int .i64 pd) := hb5.cell (by simp [go_sem])))
    go_ret
    exact ⟨ret_int HRv.out.symm, hlw.trans (by repeat' (with_reducible first | exact .refl _ | assumption | refine .drew ?_ | refine .drewN ?_ _ | refine .alloc ?_ _ | refine .put ?_ (by omega) _ | refine .trans ?_ (by assumption)))⟩
   have dd0 : decide (pd < 0) = false := by simpa using hd0
   by_cases hd1 : len < pd
   ·have dd1 : decide (len < pd) = true := by simpa using hd1
    have HRv := Lib.hid (show R = 3 by rw [Hbad.out (by rw [Hrange.out (.inr (.inr hd1))]; decide), Hrange.out (.inr (.inr hd1))])
    go_wp2_with (first | (go_at_call 115; (with_reducible refine (HC.out _ (hlw.trans (by repeat' (with_reducible first | exact .refl _ | assumption | refine .drew ?_ | refine .drewN ?_ _ | refine .alloc ?_ _ | refine .put ?_ (by omega) _ | refine .trans ?_ (by assumption))))).mono ?_); rintro e w5 ⟨rfl, hb5⟩; have c3 : w5.cell? ⟨wr.heap.size, 3, none⟩ = some (.int .i64 pd) := hb5.cell (by simp [go_sem]); have m0' : w5.cell? ⟨g5, 0, none⟩ = some (.int .i64 len) := hb5.cell (Later.cell ((Later.refl wr).alloc _) m0)))
    go_ret
    exact ⟨ret_int HRv.out.symm, hlw.trans (by repeat' (with_reducible first | exact .refl _ | assumption | refine .drew ?_ | refine .drewN ?_ _ | refine .alloc ?_ _ | refine .put ?_ (by omega) _ | refine .trans ?_ (by assumption)))⟩
   have dd1 : decide (len < pd) = false := by simpa using hd1
   have hnr : ¬ (clothB ⟨pa, pb, pc, pd⟩ rs = false ∨ pd < 0 ∨ len < pd) := by
    rintro (h | h | h)
    ·rw [Hcb2.out] at h; cases h
    ·exact hd0 h
    ·exact hd1 h
   obtain ⟨n, rfl⟩ : ∃ n : Nat, pa = (n : Int) := ⟨pa.toNat, by omega⟩
   have hn : n < rs.length := by omega
   have hnl : n < lots.length := by rw [Hll.out]; exact hn
   have Hlot := Lib.hid (pe_lot (len := len) (wd := wd) (polys := polys) (rs := rs) (lots := lots) (lot := lot) (prev := prevOf parts k) (p := ⟨(n : Int), pb, pc, pd⟩) hnr)
   have Hwide := Lib.hid (pe_wide (len := len) (wd := wd) (polys := polys) (rs := rs) (lots := lots) (lot := lot) (prev := prevOf parts k) (p := ⟨(n : Int), pb, pc, pd⟩) hnr)
   have Hfirst := Lib.hid (pe_first (len := len) (wd := wd) (polys := polys) (rs := rs) (lots := lots) (lot := lot) (p := ⟨(n : Int), pb, pc, pd⟩) hnr)
   have Hjoin := Lib.hid (fun q => pe_join (len := len) (wd := wd) (polys := polys) (rs := rs) (lots := lots) (lot := lot) (p := ⟨(n : Int), pb, pc, pd⟩) (q := q) hnr)
   have hlnn : (grl rs n).ln ≤ 1048576 := by rw [grl_eq hn]; exact hln _ (List.getElem_mem hn)
   simp only [Int.toNat_natCast] at Hlot Hwide Hfirst Hjoin b5
   have HQM := Lib.hid (show QdM ⟨(n : Int), pb, pc, pd⟩ by unfold QdM; simp only []; omega)
   clear hnr
   obtain ⟨bl, ol, rfl, l0⟩ := (hL.later hlw).at_ hnl
   rw [gL_eq hnl] at Hlot Hwide Hfirst Hjoin
   obtain ⟨br, or_, rfl, _, r1, _⟩ := (hr.later hlw).at_ hn
   rw [grl_eq hn] at Hwide Hfirst Hjoin
   generalize lots[n] = lt at *
   generalize (rs[n]).wd = rw_ at *
   have hn0 : (0 : Int) ≤ (n : Int) := by omega
   have hn1 : (n : Int) < (rs.length : Int) := by omega
   have hn2 : (n : Int) < (lots.length : Int) := by omega
   have zl : bl < wr.heap.size := World.block_lt_of_cell? _ _ l0
   have zr : br < wr.heap.size := World.block_lt_of_cell? _ _ r1
   go_upto_region 8 with (first | (go_at_call 115; (with_reducible refine (HC.out _ (hlw.trans (by repeat' (with_reducible first | exact .refl _ | assumption | refine .drew ?_ | refine .drewN ?_ _ | refine .alloc ?_ _ | refine .put ?_ (by omega) _ | refine .trans ?_ (by assumption))))).mono ?_); rintro e w5 ⟨rfl, hb5⟩; have c3 : w5.cell? ⟨wr.heap.size, 3, none⟩ = some (.int .i64 pd) := hb5.cell (by simp [go_sem]); have c0 : w5.cell? ⟨wr.heap.size, 0, none⟩ = some (.int .i64 n) := hb5.cell (by simp [go_sem]); have c1' : w5.cell? ⟨wr.heap.size, 1, none⟩ = some (.int .i64 pb) := hb5.cell (by simp [go_sem]); have c2' : w5.cell? ⟨wr.heap.size, 2, none⟩ = some (.int .i64 pc) := hb5.cell (by simp [go_sem]); have hl5 : Later wr w5 := ((Later.refl wr).alloc _).trans hb5; have m0 := hl5.cell m0; have m1 := hl5.cell m1; have y0 := hl5.cell y0; have y1 := hl5.cell y1; have l0 := hl5.cell l0; have r1 := hl5.cell r1))
   have z12 : wr.heap.size < w5.heap.size := World.block_lt_of_cell? _ _ c0
   have zl := World.block_lt_of_cell? _ _ l0
   have zr := World.block_lt_of_cell? _ _ r1
   have z5 := World.block_lt_of_cell? _ _ m0
   have z9 := World.block_lt_of_cell? _ _ y0
   have HAT := Lib.hid (Hat.out.later hl5)
   have hlw5 : Later w w5 := hlw.trans hl5
   have hlW5 : Later W0 w5 := hb.trans hl5
   clear hb5 q0 q1 q2 q3 Hat
   generalize wr.heap.size = g12 at *
   by_cases hlot : lt = lot
   ·have dl : (lt != lot) = false := by simpa using hlot
    have Hlt := Lib.hid hlot
    clear hlot
    by_cases hwd : rw_ < wd
    ·have dw : decide (rw_ < wd) = true := by simpa using hwd
     have HRv := Lib.hid (show R = 13 by rw [Hbad.out (by rw [Hwide.out Hlt.out hwd]; decide), Hwide.out Hlt.out hwd])
     go_quiet (fail)
     go_upto_region 10 with fail
     go_quiet (fail)
     go_wp2
     go_ret
     exact ⟨ret_int HRv.out.symm, hlw5.trans (by repeat' (with_reducible first | exact .refl _ | assumption | refine .drew ?_ | refine .drewN ?_ _ | refine .alloc ?_ _ | refine .put ?_ (by omega) _ | refine .trans ?_ (by assumption)))⟩
    ·have dw : decide (rw_ < wd) = false := by simpa using hwd
     go_quiet (fail)
     go_upto_region 10 with fail
     go_quiet (fail)
     go_upto_region 12 with fail
     refine name_world (fun W6 hW6 => ?_)
     have hl6 : Later w5 W6 := by rw [hW6]; exact (by repeat' (with_reducible first | exact .refl _ | assumption | refine .drew ?_ | refine .drewN ?_ _ | refine .alloc ?_ _ | refine .put ?_ (by omega) _ | refine .trans ?_ (by assumption)))
     clear hW6
     have c0 := hl6.cell c0
     have c1' := hl6.cell c1'
     have c2' := hl6.cell c2'
     have c3 := hl6.cell c3
     have m0 := hl6.cell m0
     have y1 := hl6.cell y1
     have hlw6 : Later w W6 := hlw5.trans hl6
     have hlW6 : Later W0 W6 := hlW5.trans hl6
     have z12 := World.block_lt_of_cell? _ _ c0
     have z5 := World.block_lt_of_cell? _ _ m0
     have z9 := World.block_lt_of_cell? _ _ y1
     rcases Nat.eq_zero_or_pos k with hk0 | hk0
     ·subst hk0
      have Hpe := Lib.hid (Hfirst.out Hlt.out (by omega))
      by_cases hpd : pd = 0
      ·have dpd : (pd != 0) = false := by simpa using hpd
       have HRv := Lib.hid (show R = plyGo len wd polys rs lots lot (prevOf parts (0 + 1)) (parts.drop (0 + 1)) by rw [Hprev.out]; exact Hgood.out (by show partErr len wd polys rs lots lot none _ = 0; rw [Hpe.out, if_neg (by simpa using hpd)]))
       have Hpd := Lib.hid hpd
       clear hpd
       go_quiet (fail)
       go_wp2
       go_roundw
       case rel => exact ⟨0 + 1, by omega, by go_num, HRv.out, (fun q h => by rw [Hprev.out] at h; cases h; exact HQM.out), hlW6.trans (by repeat' (with_reducible first | exact .refl _ | assumption | refine .drew ?_ | refine .drewN ?_ _ | refine .alloc ?_ _ | refine .put ?_ (by omega) _ | refine .trans ?_ (by assumption)))⟩
       case measure => simp [intOf]; omega
      ·have dpd : (pd != 0) = true := by simpa using hpd
       have HRv := Lib.hid (show R = 20 by
        have e : partErr len wd polys rs lots lot none ⟨(n : Int), pb, pc, pd⟩ = 20 := by rw [Hpe.out, if_pos (by simpa using hpd)]
        have e2 := Hbad.out (by show partErr len wd polys rs lots lot none _ ≠ 0; rw [e]; decide)
        exact e2.trans e)
       go_quiet (fail)
       go_wp2
       go_ret
       exact ⟨ret_int HRv.out.symm, hlw6.trans (by repeat' (with_reducible first | exact .refl _ | assumption | refine .drew ?_ | refine .drewN ?_ _ | refine .alloc ?_ _ | refine .put ?_ (by omega) _ | refine .trans ?_ (by assumption)))⟩
     ·have hk1 : k - 1 < parts.length := by omega
      have hpv : prevOf parts k = some parts[k - 1] := by unfold prevOf; rw [if_neg (by omega)]; exact List.getElem?_eq_getElem hk1
      obtain ⟨x0, x1, x2, x3⟩ := (HAT.out.later hl6).get hk1
      have hxm := Hpm.out _ hpv
      have Hpe := Lib.hid (Hjoin.out parts[k - 1] Hlt.out (by omega))
      have HJ := Lib.hid (fun W (hW : Later w W) => spread_joins Q qc len polys parts[k - 1] ⟨(n : Int), pb, pc, pd⟩ W (hps.later hW) hpl hxm)
      have Hbad2 := Lib.hid (show partErr len wd polys rs lots lot (some parts[k - 1]) ⟨(n : Int), pb, pc, pd⟩ ≠ 0 → R = partErr len wd polys rs lots lot (some parts[k - 1]) ⟨(n : Int), pb, pc, pd⟩ by have := Hbad.out; rw [hpv] at this; exact this)
      have Hgood2 := Lib.hid (show partErr len wd polys rs lots lot (some parts[k - 1]) ⟨(n : Int), pb, pc, pd⟩ = 0 → _ by have := Hgood.out; rw [hpv] at this; exact this)
      generalize parts[k - 1] = x at *
      obtain ⟨xa, xb, xc, xd⟩ := x
      unfold Qd.agg at HJ
      simp only [] at x0 x1 x2 x3 HJ
      have zx := World.block_lt_of_cell? _ _ x0
      have dk0 : ((k : Int) == 0) = false := by rw [beq_eq_false_iff_ne]; omega
      have dk1 : decide ((0 : Int) < (k : Int)) = true := by simp; omega
      have j2 : IntKind.i64.wrap ((k : Int) - 1) = ((k - 1 : Nat) : Int) := by rw [IntWalk.i64_in _ (by omega)]; omega
      have j3 : (0 : Int) ≤ ((k - 1 : Nat) : Int) := by omega
      have j4 : ((k - 1 : Nat) : Int) < (parts.length : Int) := by omega
      clear hpv hxm hk1
      generalize k - 1 = km at *
      rcases hj : joinsB len polys ⟨xa, xb, xc, xd⟩ ⟨(n : Int), pb, pc, pd⟩ with _ | _
      ·rw [hj] at HJ
       have HRv := Lib.hid (show R = 20 by rw [Hbad2.out (by rw [Hpe.out, hj]; decide), Hpe.out, hj]; rfl)
       clear hj
       refine wp_region_held_drew (S := (fun w' : World => (∀ a : Addr, (W6.cell? a).isSome = true → w'.cell? a = W6.cell? a) ∧ Later W6 w')) (by kernel_rfl) (keep_init _) (fun hHeld => ?_)
       refine take_at (i := 0) (d := 58) (v := ?_) rfl rfl (by kernel_rfl) (by kernel_rfl) (by kernel_rfl) (fun _ _ _ h => h) (by rfl) ?_ (by assumption) ?_
       rotate_left
       ·(intro w hSw; (try dsimp only at hSw); go_simp; (try with_reducible rfl))
       simp only [Act.put, lsA, lsZ, lsS]
       refine take_at (i := 1) (d := 59) (v := ?_) rfl rfl (by kernel_rfl) (by kernel_rfl) (by kernel_rfl) (fun _ _ _ h => h) (by rfl) ?_ (by assumption) ?_
       rotate_left
       ·(intro w hSw; (try dsimp only at hSw); go_simp; (try with_reducible rfl))
       simp only [Act.put, lsA, lsZ, lsS]
       refine take_at (i := 2) (d := 60) (v := ?_) rfl rfl (by kernel_rfl) (by kernel_rfl) (by kernel_rfl) (fun _ _ _ h => h) (by rfl) ?_ (by assumption) ?_
       rotate_left
       ·(intro w hSw; (try dsimp only at hSw); go_simp; (try with_reducible rfl))
       simp only [Act.put, lsA, lsZ, lsS]
       refine skip_at (i := 3) (d := 61) rfl rfl (by kernel_rfl) (by kernel_rfl) (by kernel_rfl) (fun _ _ _ h => h) (by rfl) (by assumption) ?_
       simp only [Act.put, lsA, lsZ, lsS]
       refine skip_at (i := 4) (d := 62) rfl rfl (by kernel_rfl) (by kernel_rfl) (by kernel_rfl) (fun _ _ _ h => h) (by rfl) (by assumption) ?_
       simp only [Act.put, lsA, lsZ, lsS]
       refine skip_at (i := 5) (d := 63) rfl rfl (by kernel_rfl) (by kernel_rfl) (by kernel_rfl) (fun _ _ _ h => h) (by rfl) (by assumption) ?_
       simp only [Act.put, lsA, lsZ, lsS]
       refine take_at (i := 6) (d := 64) (v := ?_) rfl rfl (by kernel_rfl) (by kernel_rfl) (by kernel_rfl) (fun _ _ _ h => h) (by rfl) ?_ (by assumption) ?_
       rotate_left
       ·(intro w hSw; (try dsimp only at hSw); go_simp; (try with_reducible rfl))
       simp only [Act.put, lsA, lsZ, lsS]
       refine take_at (i := 7) (d := 65) (v := ?_) rfl rfl (by kernel_rfl) (by kernel_rfl) (by kernel_rfl) (fun _ _ _ h => h) (by rfl) ?_ (by assumption) ?_
       rotate_left
       ·(intro w hSw; (try dsimp only at hSw); go_simp; (try with_reducible rfl))
       simp only [Act.put, lsA, lsZ, lsS]
       refine take_at (i := 8) (d := 66) (v := ?_) rfl rfl (by kernel_rfl) (by kernel_rfl) (by kernel_rfl) (fun _ _ _ h => h) (by rfl) ?_ (by assumption) ?_
       rotate_left
       ·(intro w hSw; (try dsimp only at hSw); go_simp; (try with_reducible rfl))
       simp only [Act.put, lsA, lsZ, lsS]
       refine take_at (i := 9) (d := 67) (v := ?_) rfl rfl (by kernel_rfl) (by kernel_rfl) (by kernel_rfl) (fun _ _ _ h => h) (by rfl) ?_ (by assumption) ?_
       rotate_left
       ·(intro w hSw; (try dsimp only at hSw); go_simp; (try with_reducible rfl))
       simp only [Act.put, lsA, lsZ, lsS]
       refine take_at (i := 10) (d := 68) (v := ?_) rfl rfl (by kernel_rfl) (by kernel_rfl) (by kernel_rfl) (fun _ _ _ h => h) (by rfl) ?_ (by assumption) ?_
       rotate_left
       ·(intro w hSw; (try dsimp only at hSw); go_simp; (try with_reducible rfl))
       simp only [Act.put, lsA, lsZ, lsS]
       refine take_at (i := 11) (d := 69) (v := ?_) rfl rfl (by kernel_rfl) (by kernel_rfl) (by kernel_rfl) (fun _ _ _ h => h) (by rfl) ?_ (by assumption) ?_
       rotate_left
       ·(intro w hSw; (try dsimp only at hSw); go_simp; (try with_reducible rfl))
       simp only [Act.put, lsA, lsZ, lsS]
       refine take_at (i := 12) (d := 70) (v := ?_) rfl rfl (by kernel_rfl) (by kernel_rfl) (by kernel_rfl) (fun _ _ _ h => h) (by rfl) ?_ (by assumption) ?_
       rotate_left
       ·(intro w hSw; (try dsimp only at hSw); go_simp; (try with_reducible rfl))
       simp only [Act.put, lsA, lsZ, lsS]
       refine take_at (i := 13) (d := 71) (v := ?_) rfl rfl (by kernel_rfl) (by kernel_rfl) (by kernel_rfl) (fun _ _ _ h => h) (by rfl) ?_ (by assumption) ?_
       rotate_left
       ·(intro w hSw; (try dsimp only at hSw); go_simp; (try with_reducible rfl))
       simp only [Act.put, lsA, lsZ, lsS]
       refine take_at (i := 14) (d := 72) (v := ?_) rfl rfl (by kernel_rfl) (by kernel_rfl) (by kernel_rfl) (fun _ _ _ h => h) (by rfl) ?_ (by assumption) ?_
       rotate_left
       ·(intro w hSw; (try dsimp only at hSw); go_simp; (try with_reducible rfl))
       simp only [Act.put, lsA, lsZ, lsS]
       refine take_at (i := 15) (d := 73) (v := ?_) rfl rfl (by kernel_rfl) (by kernel_rfl) (by kernel_rfl) (fun _ _ _ h => h) (by rfl) ?_ (by assumption) ?_
       rotate_left
       ·(intro w hSw; (try dsimp only at hSw); go_simp; (try with_reducible rfl))
       simp only [Act.put, lsA, lsZ, lsS]
       refine take_at (i := 16) (d := 74) (v := ?_) rfl rfl (by kernel_rfl) (by kernel_rfl) (by kernel_rfl) (fun _ _ _ h => h) (by rfl) ?_ (by assumption) ?_
       rotate_left
       ·(intro w hSw; (try dsimp only at hSw); go_simp; (try with_reducible rfl))
       simp only [Act.put, lsA, lsZ, lsS]
       refine take_at (i := 17) (d := 75) (v := ?_) rfl rfl (by kernel_rfl) (by kernel_rfl) (by kernel_rfl) (fun _ _ _ h => h) (by rfl) ?_ (by assumption) ?_
       rotate_left
       ·(intro w hSw; (try dsimp only at hSw); go_simp; (try with_reducible rfl))
       simp only [Act.put, lsA, lsZ, lsS]
       refine take_at (i := 18) (d := 76) (v := ?_) rfl rfl (by kernel_rfl) (by kernel_rfl) (by kernel_rfl) (fun _ _ _ h => h) (by rfl) ?_ (by assumption) ?_
       rotate_left
       ·(intro w hSw; (try dsimp only at hSw); go_simp; (try with_reducible rfl))
       simp only [Act.put, lsA, lsZ, lsS]
       refine take_at (i := 19) (d := 77) (v := ?_) rfl rfl (by kernel_rfl) (by kernel_rfl) (by kernel_rfl) (fun _ _ _ h => h) (by rfl) ?_ (by assumption) ?_
       rotate_left
       ·(intro w hSw; (try dsimp only at hSw); go_simp; (try with_reducible rfl))
       simp only [Act.put, lsA, lsZ, lsS]
       refine take_at (i := 20) (d := 78) (v := ?_) rfl rfl (by kernel_rfl) (by kernel_rfl) (by kernel_rfl) (fun _ _ _ h => h) (by rfl) ?_ (by assumption) ?_
       rotate_left
       ·(intro w hSw; (try dsimp only at hSw); go_simp; (try with_reducible rfl))
       simp only [Act.put, lsA, lsZ, lsS]
       refine call_at (i := 21) (d := 79) (f := 117) (args := #[.int .i64 len, .slice Q polys.length qc, .agg #[.int .i64 xa, .int .i64 xb, .int .i64 xc, .int .i64 xd], .agg #[.int .i64 n, .int .i64 pb, .int .i64 pc, .int .i64 pd]]) (by kernel_rfl) rfl rfl (by rfl) (by go_simp) ?_
       refine (HJ.out _ (hlw6.trans (Later.refl W6).drew)).mono ?_
       rintro e w1 ⟨rfl, hb1⟩
       refine ⟨_, rfl, keep_call hHeld hb1, fun hHeld => ?_⟩
       (try subst hb1)
       simp only [Act.put, lsA, lsZ, lsS]
       refine take_at (i := 22) (d := 80) (v := ?_) rfl rfl (by kernel_rfl) (by kernel_rfl) (by kernel_rfl) (fun _ _ _ h => h) (by rfl) ?_ (by assumption) ?_
       rotate_left
       ·(intro w hSw; (try dsimp only at hSw); go_simp; (try with_reducible rfl))
       simp only [Act.put, lsA, lsZ, lsS]
       refine take_at (i := 23) (d := 81) (v := ?_) rfl rfl (by kernel_rfl) (by kernel_rfl) (by kernel_rfl) (fun _ _ _ h => h) (by rfl) ?_ (by assumption) ?_
       rotate_left
       ·(intro w hSw; (try dsimp only at hSw); go_simp; (try with_reducible rfl))
       simp only [Act.put, lsA, lsZ, lsS]
       refine take_at (i := 24) (d := 82) (v := ?_) rfl rfl (by kernel_rfl) (by kernel_rfl) (by kernel_rfl) (fun _ _ _ h => h) (by rfl) ?_ (by assumption) ?_
       rotate_left
       ·(intro w hSw; (try dsimp only at hSw); go_simp; (try with_reducible rfl))
       simp only [Act.put, lsA, lsZ, lsS]
       refine wpAnyH_done (by kernel_rfl) ?_ _
       go_wp2
       go_ret
       exact ⟨ret_int HRv.out.symm, hlw6.trans hHeld.2⟩
      ·rw [hj] at HJ
       have HRv := Lib.hid (show R = plyGo len wd polys rs lots lot (prevOf parts (k + 1)) (parts.drop (k + 1)) by rw [Hprev.out]; exact Hgood2.out (by rw [Hpe.out, hj]; rfl))
       clear hj
       refine wp_region_held_drew (S := (fun w' : World => (∀ a : Addr, (W6.cell? a).isSome = true → w'.cell? a = W6.cell? a) ∧ Later W6 w')) (by kernel_rfl) (keep_init _) (fun hHeld => ?_)
       refine take_at (i := 0) (d := 58) (v := ?_) rfl rfl (by kernel_rfl) (by kernel_rfl) (by kernel_rfl) (fun _ _ _ h => h) (by rfl) ?_ (by assumption) ?_
       rotate_left
       ·(intro w hSw; (try dsimp only at hSw); go_simp; (try with_reducible rfl))
       simp only [Act.put, lsA, lsZ, lsS]
       refine take_at (i := 1) (d := 59) (v := ?_) rfl rfl (by kernel_rfl) (by kernel_rfl) (by kernel_rfl) (fun _ _ _ h => h) (by rfl) ?_ (by assumption) ?_
       rotate_left
       ·(intro w hSw; (try dsimp only at hSw); go_simp; (try with_reducible rfl))
       simp only [Act.put, lsA, lsZ, lsS]
       refine take_at (i := 2) (d := 60) (v := ?_) rfl rfl (by kernel_rfl) (by kernel_rfl) (by kernel_rfl) (fun _ _ _ h => h) (by rfl) ?_ (by assumption) ?_
       rotate_left
       ·(intro w hSw; (try dsimp only at hSw); go_simp; (try with_reducible rfl))
       simp only [Act.put, lsA, lsZ, lsS]
       refine skip_at (i := 3) (d := 61) rfl rfl (by kernel_rfl) (by kernel_rfl) (by kernel_rfl) (fun _ _ _ h => h) (by rfl) (by assumption) ?_
       simp only [Act.put, lsA, lsZ, lsS]
       refine skip_at (i := 4) (d := 62) rfl rfl (by kernel_rfl) (by kernel_rfl) (by kernel_rfl) (fun _ _ _ h => h) (by rfl) (by assumption) ?_
       simp only [Act.put, lsA, lsZ, lsS]
       refine skip_at (i := 5) (d := 63) rfl rfl (by kernel_rfl) (by kernel_rfl) (by kernel_rfl) (fun _ _ _ h => h) (by rfl) (by assumption) ?_
       simp only [Act.put, lsA, lsZ, lsS]
       refine take_at (i := 6) (d := 64) (v := ?_) rfl rfl (by kernel_rfl) (by kernel_rfl) (by kernel_rfl) (fun _ _ _ h => h) (by rfl) ?_ (by assumption) ?_
       rotate_left
       ·(intro w hSw; (try dsimp only at hSw); go_simp; (try with_reducible rfl))
       simp only [Act.put, lsA, lsZ, lsS]
       refine take_at (i := 7) (d := 65) (v := ?_) rfl rfl (by kernel_rfl) (by kernel_rfl) (by kernel_rfl) (fun _ _ _ h => h) (by rfl) ?_ (by assumption) ?_
       rotate_left
       ·(intro w hSw; (try dsimp only at hSw); go_simp; (try with_reducible rfl))
       simp only [Act.put, lsA, lsZ, lsS]
       refine take_at (i := 8) (d := 66) (v := ?_) rfl rfl (by kernel_rfl) (by kernel_rfl) (by kernel_rfl) (fun _ _ _ h => h) (by rfl) ?_ (by assumption) ?_
       rotate_left
       ·(intro w hSw; (try dsimp only at hSw); go_simp; (try with_reducible rfl))
       simp only [Act.put, lsA, lsZ, lsS]
       refine take_at (i := 9) (d := 67) (v := ?_) rfl rfl (by kernel_rfl) (by kernel_rfl) (by kernel_rfl) (fun _ _ _ h => h) (by rfl) ?_ (by assumption) ?_
       rotate_left
       ·(intro w hSw; (try dsimp only at hSw); go_simp; (try with_reducible rfl))
       simp only [Act.put, lsA, lsZ, lsS]
       refine take_at (i := 10) (d := 68) (v := ?_) rfl rfl (by kernel_rfl) (by kernel_rfl) (by kernel_rfl) (fun _ _ _ h => h) (by rfl) ?_ (by assumption) ?_
       rotate_left
       ·(intro w hSw; (try dsimp only at hSw); go_simp; (try with_reducible rfl))
       simp only [Act.put, lsA, lsZ, lsS]
       refine take_at (i := 11) (d := 69) (v := ?_) rfl rfl (by kernel_rfl) (by kernel_rfl) (by kernel_rfl) (fun _ _ _ h => h) (by rfl) ?_ (by assumption) ?_
       rotate_left
       ·(intro w hSw; (try dsimp only at hSw); go_simp; (try with_reducible rfl))
       simp only [Act.put, lsA, lsZ, lsS]
       refine take_at (i := 12) (d := 70) (v := ?_) rfl rfl (by kernel_rfl) (by kernel_rfl) (by kernel_rfl) (fun _ _ _ h => h) (by rfl) ?_ (by assumption) ?_
       rotate_left
       ·(intro w hSw; (try dsimp only at hSw); go_simp; (try with_reducible rfl))
       simp only [Act.put, lsA, lsZ, lsS]
       refine take_at (i := 13) (d := 71) (v := ?_) rfl rfl (by kernel_rfl) (by kernel_rfl) (by kernel_rfl) (fun _ _ _ h => h) (by rfl) ?_ (by assumption) ?_
       rotate_left
       ·(intro w hSw; (try dsimp only at hSw); go_simp; (try with_reducible rfl))
       simp only [Act.put, lsA, lsZ, lsS]
       refine take_at (i := 14) (d := 72) (v := ?_) rfl rfl (by kernel_rfl) (by kernel_rfl) (by kernel_rfl) (fun _ _ _ h => h) (by rfl) ?_ (by assumption) ?_
       rotate_left
       ·(intro w hSw; (try dsimp only at hSw); go_simp; (try with_reducible rfl))
       simp only [Act.put, lsA, lsZ, lsS]
       refine take_at (i := 15) (d := 73) (v := ?_) rfl rfl (by kernel_rfl) (by kernel_rfl) (by kernel_rfl) (fun _ _ _ h => h) (by rfl) ?_ (by assumption) ?_
       rotate_left
       ·(intro w hSw; (try dsimp only at hSw); go_simp; (try with_reducible rfl))
       simp only [Act.put, lsA, lsZ, lsS]
       refine take_at (i := 16) (d := 74) (v := ?_) rfl rfl (by kernel_rfl) (by kernel_rfl) (by kernel_rfl) (fun _ _ _ h => h) (by rfl) ?_ (by assumption) ?_
       rotate_left
       ·(intro w hSw; (try dsimp only at hSw); go_simp; (try with_reducible rfl))
       simp only [Act.put, lsA, lsZ, lsS]
       refine take_at (i := 17) (d := 75) (v := ?_) rfl rfl (by kernel_rfl) (by kernel_rfl) (by kernel_rfl) (fun _ _ _ h => h) (by rfl) ?_ (by assumption) ?_
       rotate_left
       ·(intro w hSw; (try dsimp only at hSw); go_simp; (try with_reducible rfl))
       simp only [Act.put, lsA, lsZ, lsS]
       refine take_at (i := 18) (d := 76) (v := ?_) rfl rfl (by kernel_rfl) (by kernel_rfl) (by kernel_rfl) (fun _ _ _ h => h) (by rfl) ?_ (by assumption) ?_
       rotate_left
       ·(intro w hSw; (try dsimp only at hSw); go_simp; (try with_reducible rfl))
       simp only [Act.put, lsA, lsZ, lsS]
       refine take_at (i := 19) (d := 77) (v := ?_) rfl rfl (by kernel_rfl) (by kernel_rfl) (by kernel_rfl) (fun _ _ _ h => h) (by rfl) ?_ (by assumption) ?_
       rotate_left
       ·(intro w hSw; (try dsimp only at hSw); go_simp; (try with_reducible rfl))
       simp only [Act.put, lsA, lsZ, lsS]
       refine take_at (i := 20) (d := 78) (v := ?_) rfl rfl (by kernel_rfl) (by kernel_rfl) (by kernel_rfl) (fun _ _ _ h => h) (by rfl) ?_ (by assumption) ?_
       rotate_left
       ·(intro w hSw; (try dsimp only at hSw); go_simp; (try with_reducible rfl))
       simp only [Act.put, lsA, lsZ, lsS]
       refine call_at (i := 21) (d := 79) (f := 117) (args := #[.int .i64 len, .slice Q polys.length qc, .agg #[.int .i64 xa, .int .i64 xb, .int .i64 xc, .int .i64 xd], .agg #[.int .i64 n, .int .i64 pb, .int .i64 pc, .int .i64 pd]]) (by kernel_rfl) rfl rfl (by rfl) (by go_simp) ?_
       refine (HJ.out _ (hlw6.trans (Later.refl W6).drew)).mono ?_
       rintro e w1 ⟨rfl, hb1⟩
       refine ⟨_, rfl, keep_call hHeld hb1, fun hHeld => ?_⟩
       (try subst hb1)
       simp only [Act.put, lsA, lsZ, lsS]
       refine take_at (i := 22) (d := 80) (v := ?_) rfl rfl (by kernel_rfl) (by kernel_rfl) (by kernel_rfl) (fun _ _ _ h => h) (by rfl) ?_ (by assumption) ?_
       rotate_left
       ·(intro w hSw; (try dsimp only at hSw); go_simp; (try with_reducible rfl))
       simp only [Act.put, lsA, lsZ, lsS]
       refine take_at (i := 23) (d := 81) (v := ?_) rfl rfl (by kernel_rfl) (by kernel_rfl) (by kernel_rfl) (fun _ _ _ h => h) (by rfl) ?_ (by assumption) ?_
       rotate_left
       ·(intro w hSw; (try dsimp only at hSw); go_simp; (try with_reducible rfl))
       simp only [Act.put, lsA, lsZ, lsS]
       refine take_at (i := 24) (d := 82) (v := ?_) rfl rfl (by kernel_rfl) (by kernel_rfl) (by kernel_rfl) (fun _ _ _ h => h) (by rfl) ?_ (by assumption) ?_
       rotate_left
       ·(intro w hSw; (try dsimp only at hSw); go_simp; (try with_reducible rfl))
       simp only [Act.put, lsA, lsZ, lsS]
       refine wpAnyH_done (by kernel_rfl) ?_ _
       go_wp2
       go_roundw
       case rel => exact ⟨k + 1, by omega, by go_num, HRv.out, (fun q h => by rw [Hprev.out] at h; cases h; exact HQM.out), hlW6.trans hHeld.2⟩
       case measure => simp [intOf]; omega
   ·have dl : (lt != lot) = true := by simpa using hlot
    have HRv := Lib.hid (show R = 16 by rw [Hbad.out (by rw [Hlot.out hlot]; decide), Hlot.out hlot])
    go_quiet (fail)
    go_wp2
    go_ret
    exact ⟨ret_int HRv.out.symm, hlw5.trans (by repeat' (with_reducible first | exact .refl _ | assumption | refine .drew ?_ | refine .drewN ?_ _ | refine .alloc ?_ _ | refine .put ?_ (by omega) _ | refine .trans ?_ (by assumption)))⟩
  ·have hke : k = parts.length := by omega
   subst hke
   have hk1 : parts.length - 1 < parts.length := by omega
   have hpv : prevOf parts parts.length = some parts[parts.length - 1] := by unfold prevOf; rw [if_neg (by omega)]; exact List.getElem?_eq_getElem hk1
   obtain ⟨bq, oq, rfl, hat⟩ := (hq.later hlw) (by omega)
   obtain ⟨x0, x1, x2, x3⟩ := hat.get hk1
   have hxm := Hpm.out _ hpv
   have HE := Lib.hid (fun W => spread_end parts[parts.length - 1] W hxm)
   have Hv := Lib.hid (show R = if endQ parts[parts.length - 1] ≠ len then 20 else 0 by rw [He.out, hpv, List.drop_length]; rfl)
   generalize parts[parts.length - 1] = x at *
   generalize endQ x = ex at *
   obtain ⟨xa, xb, xc, xd⟩ := x
   unfold Qd.agg at HE
   simp only [] at x0 x1 x2 x3 HE
   have zx := World.block_lt_of_cell? _ _ x0
   have j2 : IntKind.i64.wrap ((parts.length : Int) - 1) = ((parts.length - 1 : Nat) : Int) := by rw [IntWalk.i64_in _ (by omega)]; omega
   have j3 : (0 : Int) ≤ ((parts.length - 1 : Nat) : Int) := by omega
   have j4 : ((parts.length - 1 : Nat) : Int) < (parts.length : Int) := by omega
   clear hpv hxm hat hk1
   generalize parts.length - 1 = km at *
   by_cases hex : ex = len
   ·have dex : (ex != len) = false := by simpa using hex
    have HRv := Lib.hid (show R = 0 by rw [Hv.out, if_neg (by simpa using hex)])
    have Hex := Lib.hid hex
    clear hex
    go_wp2
    go_region_held3 (fun w' : World => (∀ a : Addr, (wr.cell? a).isSome = true → w'.cell? a = wr.cell? a) ∧ Later wr w') (first | assumption | exact keep_call (by assumption) (by assumption) | exact keep_call (by assumption) ((Later.refl _).alloc _) | exact keep_init _ | exact ⟨Later.keeps (by assumption), by assumption⟩) (first | (go_at_call 118; (with_reducible refine (HE.out _).mono ?_); rintro e w1 ⟨rfl, hb1⟩))
    all_goals
     rename_i hHw
     go_wp2
     go_ret
     exact ⟨ret_int HRv.out.symm, hlw.trans hHw.2⟩
   ·have dex : (ex != len) = true := by simpa using hex
    have HRv := Lib.hid (show R = 20 by rw [Hv.out, if_pos hex])
    go_wp2
    go_region_held3 (fun w' : World => (∀ a : Addr, (wr.cell? a).isSome = true → w'.cell? a = wr.cell? a) ∧ Later wr w') (first | assumption | exact keep_call (by assumption) (by assumption) | exact keep_call (by assumption) ((Later.refl _).alloc _) | exact keep_init _ | exact ⟨Later.keeps (by assumption), by assumption⟩) (first | (go_at_call 118; (with_reducible refine (HE.out _).mono ?_); rintro e w1 ⟨rfl, hb1⟩))
    all_goals
     rename_i hHw
     go_wp2
     go_ret
     exact ⟨ret_int HRv.out.symm, hlw.trans hHw.2⟩
end Go.Proofs.YtdhakoecjmaebaaGreat
