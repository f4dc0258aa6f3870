/-
 The walks of spread's small functions: end, isCloth, joins, checkRolls, checkCloth, checkPlies.
-/
import Derived.Test.YtdhakoecjmaebaaGreatZSprP
import Derived.Test.YtdhakoecjmaebaaGreatZSprQ
namespace Go.Proofs.YtdhakoecjmaebaaGreat
open Go.RowKit
set_option linter.unusedSimpArgs false
set_option linter.unusedVariables false
def QdM (p : Qd) : Prop := -4194304 ≤ p.b ∧ p.b ≤ 4194304 ∧ -4194304 ≤ p.c ∧ p.c ≤ 4194304 ∧ -4194304 ≤ p.d ∧ p.d ≤ 4194304
set_option maxHeartbeats 1000000 in
theorem spread_end (p : Qd) (w : World) (h : QdM p) : Calls Tryz.prog 118 #[p.agg] w (Ret (.int .i64 (endQ p)) w) := by
 obtain ⟨a, b, c, d⟩ := p
 unfold QdM at h
 unfold Qd.agg endQ
 simp only [] at h ⊢
 go_enter Tryz.func118, Tryz.ntmps118
 go_wp2
 go_ret
 exact ⟨rfl, (by repeat' (with_reducible first | exact .refl _ | assumption | refine .drew ?_ | refine .drewN ?_ _ | refine .alloc ?_ _ | refine .put ?_ (by omega) _ | refine .trans ?_ (by assumption)))⟩
set_option maxHeartbeats 2000000 in
set_option maxRecDepth 100000 in
theorem spread_isCloth (C : Option Addr) (cc : Nat) (p : Qd) (rs : List Rl) (w : World) (hr : Rolls w C rs) (hn : rs.length ≤ 65536) :
  Calls Tryz.prog 115 #[p.agg, .slice C rs.length cc] w (Ret (.bool (clothB p rs)) w) := by
 obtain ⟨a, b, c, d⟩ := p
 unfold Qd.agg clothB
 simp only []
 by_cases h1 : 0 ≤ a
 ·have d1 : decide (0 ≤ a) = true := by simpa using h1
  by_cases h2 : a < (rs.length : Int)
  ·have d2 : decide (a < (rs.length : Int)) = true := by simpa using h2
   by_cases h3 : 0 ≤ b
   ·have d3 : decide (0 ≤ b) = true := by simpa using h3
    by_cases h4 : b < c
    ·have d4 : decide (b < c) = true := by simpa using h4
     obtain ⟨n, rfl⟩ : ∃ n : Nat, a = (n : Int) := ⟨a.toNat, by omega⟩
     have hnl : n < rs.length := by omega
     have Hg := Lib.hid (grl_eq hnl)
     obtain ⟨bb, ob, rfl, e0, e1, e2, _⟩ := hr.at_ hnl
     have hbz : bb < w.heap.size := World.block_lt_of_cell? _ _ e0
     generalize rs[n] = r at *
     rw [d1, d2, d3, d4]
     have Hln := Lib.hid (show (grl rs (n : Int).toNat).ln = r.ln by rw [Int.toNat_natCast, Hg.out])
     rw [Hln.out]
     generalize r.ln = ln at *
     go_enter Tryz.func115, Tryz.ntmps115
     go_wp2
     go_quiet (fail)
     go_wp2
     go_ret
     exact ⟨rfl, (by repeat' (with_reducible first | exact .refl _ | assumption | refine .drew ?_ | refine .drewN ?_ _ | refine .alloc ?_ _ | refine .put ?_ (by omega) _ | refine .trans ?_ (by assumption)))⟩
    ·have d4 : decide (b < c) = false := by simpa using h4
     rw [d1, d2, d3, d4]
     go_enter Tryz.func115, Tryz.ntmps115
     go_wp2
     go_quiet (fail)
     go_wp2
     go_ret
     exact ⟨rfl, (by repeat' (with_reducible first | exact .refl _ | assumption | refine .drew ?_ | refine .drewN ?_ _ | refine .alloc ?_ _ | refine .put ?_ (by omega) _ | refine .trans ?_ (by assumption)))⟩
   ·have d3 : decide (0 ≤ b) = false := by simpa using h3
    rw [d1, d2, d3]
    go_enter Tryz.func115, Tryz.ntmps115
    go_wp2
    go_quiet (fail)
    go_wp2
    go_ret
    exact ⟨rfl, (by repeat' (with_reducible first | exact .refl _ | assumption | refine .drew ?_ | refine .drewN ?_ _ | refine .alloc ?_ _ | refine .put ?_ (by omega) _ | refine .trans ?_ (by assumption)))⟩
  ·have d2 : decide (a < (rs.length : Int)) = false := by simpa using h2
   rw [d1, d2]
   go_enter Tryz.func115, Tryz.ntmps115
   go_wp2
   go_quiet (fail)
   go_wp2
   go_ret
   exact ⟨rfl, (by repeat' (with_reducible first | exact .refl _ | assumption | refine .drew ?_ | refine .drewN ?_ _ | refine .alloc ?_ _ | refine .put ?_ (by omega) _ | refine .trans ?_ (by assumption)))⟩
 ·have d1 : decide (0 ≤ a) = false := by simpa using h1
  rw [d1]
  go_enter Tryz.func115, Tryz.ntmps115
  go_wp2
  go_quiet (fail)
  go_wp2
  go_ret
  exact ⟨rfl, (by repeat' (with_reducible first | exact .refl _ | assumption | refine .drew ?_ | refine .drewN ?_ _ | refine .alloc ?_ _ | refine .put ?_ (by omega) _ | refine .trans ?_ (by assumption)))⟩
set_option maxHeartbeats 2000000 in
theorem spread_checkRolls (C L : Option Addr) (cc lc nl : Nat) (rs : List Rl) (w : World) (hr : Rolls w C rs) (hn : rs.length ≤ 1099511627776) (hnl : nl ≤ 9223372036854775807) :
  Calls Tryz.prog 114 #[.slice C rs.length cc, .slice L nl lc] w (Ret (.int .i64 (chkRollsR rs nl)) w) := by
 by_cases h20 : 20 < rs.length
 ·have d20 : decide ((20 : Int) < (rs.length : Int)) = true := by simp; omega
  have H := Lib.hid (show chkRollsR rs nl = 5 by unfold chkRollsR; rw [if_pos h20])
  go_enter Tryz.func114, Tryz.ntmps114
  go_wp2
  go_ret
  exact ⟨ret_int H.out.symm, (by repeat' (with_reducible first | exact .refl _ | assumption | refine .drew ?_ | refine .drewN ?_ _ | refine .alloc ?_ _ | refine .put ?_ (by omega) _ | refine .trans ?_ (by assumption)))⟩
 have d20 : decide ((20 : Int) < (rs.length : Int)) = false := by simp; omega
 have h65 : rs.length ≤ 20 := by omega
 have H := Lib.hid (show chkRollsR rs nl = if rollsErr rs ≠ 0 then rollsErr rs else if nl ≠ rs.length then 1 else 0 by unfold chkRollsR; rw [if_neg h20])
 go_enter Tryz.func114, Tryz.ntmps114
 go_wp2
 go_loopw [13] (fun iv wr => ∃ k : Nat, k ≤ rs.length ∧ iv = .int .i64 k ∧ rollsErr rs = rollsErr (rs.drop k) ∧ Later w wr) (fun iv _ => rs.length - (intOf iv).toNat)
 case atStart => exact ⟨0, by omega, rfl, rfl, Later.refl _⟩
 case round =>
  obtain ⟨k, hk, rfl, he, hb⟩ := hrel
  have He := Lib.hid he
  clear he
  by_cases hlt : k < rs.length
  ·obtain ⟨bb, ob, rfl, z0, z1, z2, z3, z4, z5, z6, zok⟩ := (hr.later hb).at_ hlt
   have hbz : bb < wr.heap.size := World.block_lt_of_cell? _ _ z0
   have Hd := Lib.hid (drop_cons' rs k hlt)
   generalize rs[k] = r at *
   have HK := Lib.hid (fun W (hW : Later wr W) => roll_Check r W (zok.later hW))
   have Hbad := Lib.hid (fun l => rolls_bad (r := r) (l := l))
   have Hgood := Lib.hid (fun l => rolls_good (r := r) (l := l))
   generalize rollI r = er at *
   obtain ⟨rid, rwd, rln, rtl, rta, rtb, fa, fc, fl⟩ := r
   unfold Rl.agg at HK
   simp only [] at HK z0 z1 z2 z3 z4 z5 z6
   rcases Classical.em (er = 0) with h0 | h0
   ·subst h0
    go_wp2_with (first | (go_at_call 122; (with_reducible refine (HK.out _ (by repeat' (with_reducible first | exact .refl _ | assumption | refine .drew ?_ | refine .drewN ?_ _ | refine .alloc ?_ _ | refine .put ?_ (by omega) _ | refine .trans ?_ (by assumption)))).mono ?_); rintro e w5 ⟨rfl, hb5⟩))
    go_roundw
    case rel => exact ⟨k + 1, by omega, by go_num, by rw [He.out, Hd.out, Hgood.out _ (by first | trivial | rfl)], (by repeat' (with_reducible first | exact .refl _ | assumption | refine .drew ?_ | refine .drewN ?_ _ | refine .alloc ?_ _ | refine .put ?_ (by omega) _ | refine .trans ?_ (by assumption)))⟩
    case measure => simp [intOf]; omega
   ·have dn : (er != 0) = true := by simpa using h0
    go_wp2_with (first | (go_at_call 122; (with_reducible refine (HK.out _ (by repeat' (with_reducible first | exact .refl _ | assumption | refine .drew ?_ | refine .drewN ?_ _ | refine .alloc ?_ _ | refine .put ?_ (by omega) _ | refine .trans ?_ (by assumption)))).mono ?_); rintro e w5 ⟨rfl, hb5⟩))
    go_ret
    exact ⟨ret_int (by rw [H.out, He.out, Hd.out, Hbad.out _ h0, if_pos h0]), (by repeat' (with_reducible first | exact .refl _ | assumption | refine .drew ?_ | refine .drewN ?_ _ | refine .alloc ?_ _ | refine .put ?_ (by omega) _ | refine .trans ?_ (by assumption)))⟩
  ·have H0 := Lib.hid (show rollsErr rs = 0 by rw [He.out, List.drop_eq_nil_of_le (by omega)]; rfl)
   by_cases hq : nl = rs.length
   ·have HR := Lib.hid (show chkRollsR rs nl = 0 by rw [H.out, H0.out]; simp [hq])
    have dq : ((nl : Int) != (rs.length : Int)) = false := by simp [hq]
    have Hq := Lib.hid hq
    clear hq
    go_wp2
    go_ret
    exact ⟨ret_int HR.out.symm, hb⟩
   ·have HR := Lib.hid (show chkRollsR rs nl = 1 by rw [H.out, H0.out]; simp [hq])
    have dq : ((nl : Int) != (rs.length : Int)) = true := by simp; omega
    go_wp2
    go_ret
    exact ⟨ret_int HR.out.symm, hb⟩
set_option maxHeartbeats 2000000 in
theorem spread_checkCloth (Q C L S1 S2 : Option Addr) (qc cc lc nl n1 c1 n2 c2 : Nat) (len wd rx ry : Int) (polys : List (List Pt)) (rs : List Rl) (w : World) (hps : Polys w Q polys) (hpl : ∀ p ∈ polys, p.length ≤ 1099511627776) (hr : Rolls w C rs) (hn : rs.length ≤ 1099511627776) (hnl : nl ≤ 9223372036854775807) :
  Calls Tryz.prog 76 #[.agg #[.int .i64 len, .int .i64 wd, .int .i64 rx, .int .i64 ry, .slice S1 n1 c1, .slice S2 n2 c2], .slice Q polys.length qc, .slice C rs.length cc, .slice L nl lc] w (Ret (.int .i64 (chkClothR len wd polys rs nl)) w) := by
 have HB := Lib.hid (fun W (hW : Later w W) => splice_Back Q qc len 0 polys W (hps.later hW) hpl)
 have HK := Lib.hid (fun W (hW : Later w W) => spread_checkRolls C L cc lc nl rs W (hr.later hW) hn hnl)
 unfold chkClothR
 generalize BackR len polys 0 = B at *
 generalize chkRollsR rs nl = er at *
 obtain ⟨bv, be⟩ := B
 simp only [] at HB ⊢
 go_enter Tryz.func76, Tryz.ntmps76
 rcases Classical.em (be = 0) with h0 | h0
 ·subst h0
  rcases Classical.em (er = 0) with h1 | h1
  ·subst h1
   by_cases hw1 : wd < 1
   ·have dw1 : decide (wd < 1) = true := by simpa using hw1
    go_wp2_with (first | (go_at_call 116; (with_reducible refine (HB.out _ (by repeat' (with_reducible first | exact .refl _ | assumption | refine .drew ?_ | refine .drewN ?_ _ | refine .alloc ?_ _ | refine .put ?_ (by omega) _ | refine .trans ?_ (by assumption)))).mono ?_); rintro e w1 ⟨rfl, hb1⟩; have m1 : w1.cell? ⟨w.heap.size, 1, none⟩ = some (.int .i64 wd) := hb1.cell (by simp [go_sem]); have hl1 : Later w w1 := (by repeat' (with_reducible first | exact .refl _ | assumption | refine .drew ?_ | refine .drewN ?_ _ | refine .alloc ?_ _ | refine .put ?_ (by omega) _ | refine .trans ?_ (by assumption)))) | (go_at_call 114; (with_reducible refine (HK.out _ hl1).mono ?_); rintro e w2 ⟨rfl, hb2⟩; have m2 := hb2.cell m1))
    go_ret
    exact ⟨ret_int (by simp [hw1]), hl1.trans hb2⟩
   ·have dw1 : decide (wd < 1) = false := by simpa using hw1
    by_cases hw2 : 1048576 < wd
    ·have dw2 : decide (1048576 < wd) = true := by simpa using hw2
     go_wp2_with (first | (go_at_call 116; (with_reducible refine (HB.out _ (by repeat' (with_reducible first | exact .refl _ | assumption | refine .drew ?_ | refine .drewN ?_ _ | refine .alloc ?_ _ | refine .put ?_ (by omega) _ | refine .trans ?_ (by assumption)))).mono ?_); rintro e w1 ⟨rfl, hb1⟩; have m1 : w1.cell? ⟨w.heap.size, 1, none⟩ = some (.int .i64 wd) := hb1.cell (by simp [go_sem]); have hl1 : Later w w1 := (by repeat' (with_reducible first | exact .refl _ | assumption | refine .drew ?_ | refine .drewN ?_ _ | refine .alloc ?_ _ | refine .put ?_ (by omega) _ | refine .trans ?_ (by assumption)))) | (go_at_call 114; (with_reducible refine (HK.out _ hl1).mono ?_); rintro e w2 ⟨rfl, hb2⟩; have m2 := hb2.cell m1))
     go_ret
     exact ⟨ret_int (by simp [hw2]), hl1.trans hb2⟩
    ·have dw2 : decide (1048576 < wd) = false := by simpa using hw2
     go_wp2_with (first | (go_at_call 116; (with_reducible refine (HB.out _ (by repeat' (with_reducible first | exact .refl _ | assumption | refine .drew ?_ | refine .drewN ?_ _ | refine .alloc ?_ _ | refine .put ?_ (by omega) _ | refine .trans ?_ (by assumption)))).mono ?_); rintro e w1 ⟨rfl, hb1⟩; have m1 : w1.cell? ⟨w.heap.size, 1, none⟩ = some (.int .i64 wd) := hb1.cell (by simp [go_sem]); have hl1 : Later w w1 := (by repeat' (with_reducible first | exact .refl _ | assumption | refine .drew ?_ | refine .drewN ?_ _ | refine .alloc ?_ _ | refine .put ?_ (by omega) _ | refine .trans ?_ (by assumption)))) | (go_at_call 114; (with_reducible refine (HK.out _ hl1).mono ?_); rintro e w2 ⟨rfl, hb2⟩; have m2 := hb2.cell m1))
     go_ret
     exact ⟨ret_int (by first | (simp; done) | (simp; omega)), hl1.trans hb2⟩
  ·have dn : (er != 0) = true := by simpa using h1
   go_wp2_with (first | (go_at_call 116; (with_reducible refine (HB.out _ (by repeat' (with_reducible first | exact .refl _ | assumption | refine .drew ?_ | refine .drewN ?_ _ | refine .alloc ?_ _ | refine .put ?_ (by omega) _ | refine .trans ?_ (by assumption)))).mono ?_); rintro e w1 ⟨rfl, hb1⟩; have m1 : w1.cell? ⟨w.heap.size, 1, none⟩ = some (.int .i64 wd) := hb1.cell (by simp [go_sem]); have hl1 : Later w w1 := (by repeat' (with_reducible first | exact .refl _ | assumption | refine .drew ?_ | refine .drewN ?_ _ | refine .alloc ?_ _ | refine .put ?_ (by omega) _ | refine .trans ?_ (by assumption)))) | (go_at_call 114; (with_reducible refine (HK.out _ hl1).mono ?_); rintro e w2 ⟨rfl, hb2⟩; have m2 := hb2.cell m1))
   go_ret
   exact ⟨ret_int (by simp [h1]), hl1.trans hb2⟩
 ·have dn : (be != 0) = true := by simpa using h0
  go_wp2_with (first | (go_at_call 116; (with_reducible refine (HB.out _ (by repeat' (with_reducible first | exact .refl _ | assumption | refine .drew ?_ | refine .drewN ?_ _ | refine .alloc ?_ _ | refine .put ?_ (by omega) _ | refine .trans ?_ (by assumption)))).mono ?_); rintro e w1 ⟨rfl, hb1⟩))
  go_ret
  exact ⟨ret_int (by simp [h0]), (by repeat' (with_reducible first | exact .refl _ | assumption | refine .drew ?_ | refine .drewN ?_ _ | refine .alloc ?_ _ | refine .put ?_ (by omega) _ | refine .trans ?_ (by assumption)))⟩
set_option maxHeartbeats 4000000 in
set_option maxRecDepth 100000 in
theorem spread_joins (Q : Option Addr) (qc : Nat) (len : Int) (polys : List (List Pt)) (p q : Qd) (w : World) (hps : Polys w Q polys) (hpl : ∀ p ∈ polys, p.length ≤ 1099511627776) (hp : QdM p) :
  Calls Tryz.prog 117 #[.int .i64 len, .slice Q polys.length qc, p.agg, q.agg] w (Ret (.bool (joinsB len polys p q)) w) := by
 have HB := Lib.hid (fun W (hW : Later w W) => splice_Back Q qc len (endQ p) polys W (hps.later hW) hpl)
 have HE := Lib.hid (fun W => spread_end p W hp)
 have Hj := Lib.hid (show joinsB len polys p q = if q.d ≤ p.d ∨ endQ p < q.d then false else (BackR len polys (endQ p)).2 == 0 && decide (q.d ≤ (BackR len polys (endQ p)).1) from rfl)
 generalize joinsB len polys p q = jv at *
 generalize endQ p = ep at *
 generalize BackR len polys ep = B at *
 obtain ⟨bv, be⟩ := B
 obtain ⟨pa, pb, pc, pd⟩ := p
 obtain ⟨qa, qb, qc', qd⟩ := q
 unfold Qd.agg at HE ⊢
 simp only [] at HE HB Hj ⊢
 clear hp
 by_cases h1 : qd ≤ pd
 ·have d1 : decide (qd ≤ pd) = true := by simpa using h1
  have Hv := Lib.hid (show jv = false by rw [Hj.out, if_pos (.inl h1)])
  go_enter Tryz.func117, Tryz.ntmps117
  go_wp2
  go_quiet (fail)
  go_wp2
  go_ret
  exact ⟨ret_bool Hv.out.symm, (by repeat' (with_reducible first | exact .refl _ | assumption | refine .drew ?_ | refine .drewN ?_ _ | refine .alloc ?_ _ | refine .put ?_ (by omega) _ | refine .trans ?_ (by assumption)))⟩
 have d1 : decide (qd ≤ pd) = false := by simpa using h1
 go_enter Tryz.func117, Tryz.ntmps117
 go_upto_region 1 with fail
 refine name_world (fun W2 hW2 => ?_)
 have hl2 : Later w W2 := by rw [hW2]; exact (by repeat' (with_reducible first | exact .refl _ | assumption | refine .drew ?_ | refine .drewN ?_ _ | refine .alloc ?_ _ | refine .put ?_ (by omega) _ | refine .trans ?_ (by assumption)))
 have D6 : Blk W2 w.heap.size 92 #[.int .i64 pa, .int .i64 pb, .int .i64 pc, .int .i64 pd] := by rw [hW2]; exact (by repeat' (with_reducible first | assumption | (refine Blk.newAt ?_; simp; done) | refine Blk.alloc ?_ _ | refine Blk.drew ?_ | refine Blk.drewN ?_ _ | refine Blk.later ?_ (by assumption)))
 have D7 : Blk W2 (w.heap.size + 1) 92 #[.int .i64 qa, .int .i64 qb, .int .i64 qc', .int .i64 qd] := by rw [hW2]; exact (by repeat' (with_reducible first | assumption | (refine Blk.newAt ?_; simp; done) | refine Blk.alloc ?_ _ | refine Blk.drew ?_ | refine Blk.drewN ?_ _ | refine Blk.later ?_ (by assumption)))
 clear hW2
 generalize w.heap.size = g6 at *
 have p0 : W2.cell? ⟨g6, 0, none⟩ = some (.int .i64 pa) := D6.cell 0
 have p1 : W2.cell? ⟨g6, 1, none⟩ = some (.int .i64 pb) := D6.cell 1
 have p2 : W2.cell? ⟨g6, 2, none⟩ = some (.int .i64 pc) := D6.cell 2
 have p3 : W2.cell? ⟨g6, 3, none⟩ = some (.int .i64 pd) := D6.cell 3
 have q3 : W2.cell? ⟨g6 + 1, 3, none⟩ = some (.int .i64 qd) := D7.cell 3
 have z6 := D6.lt
 have z7 := D7.lt
 by_cases h2 : ep < qd
 ·have d2 : decide (ep < qd) = true := by simpa using h2
  have Hv := Lib.hid (show jv = false by rw [Hj.out, if_pos (.inr h2)])
  go_region_held3 (fun w' : World => (∀ a : Addr, (W2.cell? a).isSome = true → w'.cell? a = W2.cell? a) ∧ Later W2 w') (first | assumption | exact keep_call (by assumption) (by assumption) | exact keep_call (by assumption) ((Later.refl _).alloc _) | exact keep_init _ | exact ⟨Later.keeps (by assumption), by assumption⟩) (first | (go_at_call 118; (with_reducible refine (HE.out _).mono ?_); rintro e w1 ⟨rfl, hb1⟩))
  all_goals
   rename_i hHw
   go_wp2
   go_ret
   exact ⟨ret_bool Hv.out.symm, hl2.trans hHw.2⟩
 have d2 : decide (ep < qd) = false := by simpa using h2
 go_region_held3 (fun w' : World => (∀ a : Addr, (W2.cell? a).isSome = true → w'.cell? a = W2.cell? a) ∧ Later W2 w') (first | assumption | exact keep_call (by assumption) (by assumption) | exact keep_call (by assumption) ((Later.refl _).alloc _) | exact keep_init _ | exact ⟨Later.keeps (by assumption), by assumption⟩) (first | (go_at_call 118; (with_reducible refine (HE.out _).mono ?_); rintro e w1 ⟨rfl, hb1⟩))
 rename_i hHw
 have hl1 : Later W2 w1 := hHw.2
 have p0 := hl1.cell p0
 have p1 := hl1.cell p1
 have p2 := hl1.cell p2
 have p3 := hl1.cell p3
 have q3 := hl1.cell q3
 have Hv := Lib.hid (show jv = (be == 0 && decide (qd ≤ bv)) by rw [Hj.out, if_neg (by omega)])
 have z6 : g6 < w1.heap.size := World.block_lt_of_cell? _ _ p0
 have z7 : g6 + 1 < w1.heap.size := World.block_lt_of_cell? _ _ q3
 clear hHw
 rcases Classical.em (be = 0) with h0 | h0
 ·subst h0
  go_wp2_with (first | (go_at_call 118; (with_reducible refine (HE.out _).mono ?_); rintro e w2 ⟨rfl, hb2⟩; have q4 := hb2.cell q3; have hl3 : Later w w2 := hl2.trans (hl1.trans hb2)) | (go_at_call 116; (with_reducible refine (HB.out _ hl3).mono ?_); rintro e w3 ⟨rfl, hb3⟩; have q5 := hb3.cell q4))
  go_ret
  exact ⟨ret_bool (by rw [Hv.out]; rfl), hl3.trans hb3⟩
 ·have dn : (be == 0) = false := by simpa using h0
  go_wp2_with (first | (go_at_call 118; (with_reducible refine (HE.out _).mono ?_); rintro e w2 ⟨rfl, hb2⟩; have q4 := hb2.cell q3; have hl3 : Later w w2 := hl2.trans (hl1.trans hb2)) | (go_at_call 116; (with_reducible refine (HB.out _ hl3).mono ?_); rintro e w3 ⟨rfl, hb3⟩; have q5 := hb3.cell q4))
  go_ret
  exact ⟨ret_bool (by rw [Hv.out, dn]; rfl), hl3.trans hb3⟩
end Go.Proofs.YtdhakoecjmaebaaGreat
