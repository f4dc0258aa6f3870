/-
 The reference of layer 13: the neighbours of a vertex, free corners, the triangles of a polygon.
-/
import Derived.Test.YtdhakoecjmaebaaGreatZRefN
import Derived.Test.YtdhakoecjmaebaaGreatZSimEq
namespace Go.Proofs.YtdhakoecjmaebaaGreat
open Go.RowKit
set_option linter.unusedSimpArgs false
set_option linter.unusedVariables false
def RetTri (p q r : Pt) (w : World) (e : Ending) (w' : World) : Prop := ∃ g, e = .returned (.slice (some ⟨g, 0, none⟩) 3 3) ∧ PtsAt w' g 0 [p, q, r] ∧ w.heap.size ≤ g ∧ Later w w'
theorem tri_cells {w : World} {g : Nat} {p q r : Pt} (h : PtsAt w g 0 [p, q, r]) : w.cell? ⟨g, 0, none⟩ = some (.int .i64 p.x) ∧ w.cell? ⟨g, 1, none⟩ = some (.int .i64 p.y) ∧ w.cell? ⟨g, 2, none⟩ = some (.int .i64 q.x) ∧ w.cell? ⟨g, 3, none⟩ = some (.int .i64 q.y) ∧ w.cell? ⟨g, 4, none⟩ = some (.int .i64 r.x) ∧ w.cell? ⟨g, 5, none⟩ = some (.int .i64 r.y) :=
 ⟨(h 0 _ rfl).1, (h 0 _ rfl).2, (h 1 _ rfl).1, (h 1 _ rfl).2, (h 2 _ rfl).1, (h 2 _ rfl).2⟩
set_option maxHeartbeats 2000000 in
theorem ref13_around (b o c i : Nat) (ps : List Pt) (w : World) (hn : ps.length ≤ 64) (hi : i < ps.length) (hat : PtsAt w b o ps) :
  Calls Tryz.prog 176 #[.slice (some ⟨b, o, none⟩) ps.length c, .int .i64 i] w (RetTri (gp ps ((i + ps.length - 1) % ps.length)) (gp ps i) (gp ps ((i + 1) % ps.length)) w) := by
 have hm0 : (i + ps.length - 1) % ps.length < ps.length := Nat.mod_lt _ (by omega)
 have hm1 : (i + 1) % ps.length < ps.length := Nat.mod_lt _ (by omega)
 obtain ⟨d1, d2⟩ := hat.get hm0
 obtain ⟨e1, e2⟩ := hat.get hi
 obtain ⟨f1, f2⟩ := hat.get hm1
 rw [← gp_eq] at d1 d2 e1 e2 f1 f2
 have hbz : b < w.heap.size := World.block_lt_of_cell? _ _ e1
 have hnil : ¬ ps = [] := by intro h; rw [h] at hi; simp at hi
 have i1 : (0 : Int) ≤ (i : Int) := by omega
 have i2 : (i : Int) < (ps.length : Int) := by omega
 have hw0 : IntKind.i64.wrap ((i : Int) + ps.length) = (i : Int) + ps.length := IntWalk.i64_in _ (by omega)
 have hw0' : IntKind.i64.wrap ((i : Int) + ps.length - 1) = (i : Int) + ps.length - 1 := IntWalk.i64_in _ (by omega)
 have ht0 : ((i : Int) + ps.length - 1).tmod (ps.length : Int) = ((i : Int) + ps.length - 1) % (ps.length : Int) := Int.tmod_eq_emod_of_nonneg (by omega)
 have hi0 : (0 : Int) ≤ ((i : Int) + ps.length - 1) % (ps.length : Int) ∧ ((i : Int) + ps.length - 1) % (ps.length : Int) < (ps.length : Int) := ⟨Int.emod_nonneg _ (by omega), Int.emod_lt_of_pos _ (by omega)⟩
 have hn0 : (((i : Int) + ps.length - 1) % (ps.length : Int)).toNat = (i + ps.length - 1) % ps.length := toNat_emod' i ps.length ps.length (by omega)
 have hw1 : IntKind.i64.wrap ((i : Int) + 1) = (i : Int) + 1 := IntWalk.i64_in _ (by omega)
 have ht1 : ((i : Int) + 1).tmod (ps.length : Int) = ((i : Int) + 1) % (ps.length : Int) := Int.tmod_eq_emod_of_nonneg (by omega)
 have hi1 : (0 : Int) ≤ ((i : Int) + 1) % (ps.length : Int) ∧ ((i : Int) + 1) % (ps.length : Int) < (ps.length : Int) := ⟨Int.emod_nonneg _ (by omega), Int.emod_lt_of_pos _ (by omega)⟩
 have hn1 : (((i : Int) + 1) % (ps.length : Int)).toNat = (i + 1) % ps.length := toNat_emod i 1 ps.length
 go_enter Tryz.func176, Tryz.ntmps176
 go_wp2
 go_region_held3 (fun w' : World => (∀ a : Addr, (w.cell? a).isSome = true → w'.cell? a = w.cell? a) ∧ Later w w') (first | assumption | exact keep_call (by assumption) (by assumption) | exact keep_call (by assumption) ((Later.refl _).alloc _) | exact keep_init _ | exact ⟨Later.keeps (by assumption), by assumption⟩ | exact ⟨Later.keeps (by repeat' (with_reducible first | exact .refl _ | assumption | refine .drew ?_ | refine .drewN ?_ _ | refine .alloc ?_ _ | refine .put ?_ (by omega) _ | refine .trans ?_ (by assumption))), (by repeat' (with_reducible first | exact .refl _ | assumption | refine .drew ?_ | refine .drewN ?_ _ | refine .alloc ?_ _ | refine .put ?_ (by omega) _ | refine .trans ?_ (by assumption)))⟩) (fail)
 all_goals
  go_wp2
  go_ret
  exact ⟨w.heap.size, rfl, pts_three (Blk.new _ _ _), Nat.le_refl _, (by repeat' (with_reducible first | exact .refl _ | assumption | refine .drew ?_ | refine .drewN ?_ _ | refine .alloc ?_ _ | refine .put ?_ (by omega) _ | refine .trans ?_ (by assumption)))⟩
set_option maxHeartbeats 2000000 in
theorem ref13_bend (b o c i : Nat) (ps : List Pt) (w : World) (hn : ps.length ≤ 64) (hi : i < ps.length) (hat : PtsAt w b o ps) (hsm : AllSm ps) :
  Calls Tryz.prog 215 #[.slice (some ⟨b, o, none⟩) ps.length c, .int .i64 i] w (Ret (.int .i64 (bendI ps i)) w) := by
 have s0 := hsm ((i + ps.length - 1) % ps.length)
 have s1 := hsm i
 have s2 := hsm ((i + 1) % ps.length)
 have HA := Lib.hid (fun W (hW : Later w W) => ref13_around b o c i ps W hn hi (hat.later hW))
 have HX := Lib.hid (fun W => ref11_Cross _ _ _ _ _ _ W s0.1 s0.2 s1.1 s1.2 s2.1 s2.2)
 go_enter Tryz.func215, Tryz.ntmps215
 go_wp2_with (first
  | (go_at_call 176; (with_reducible refine (HA.out _ (by repeat' (with_reducible first | exact .refl _ | assumption | refine .drew ?_ | refine .drewN ?_ _ | refine .alloc ?_ _ | refine .put ?_ (by omega) _ | refine .trans ?_ (by assumption)))).mono ?_); rintro e w1 ⟨g, rfl, q4, hg, hb1⟩; obtain ⟨x0, x1, x2, x3, x4, x5⟩ := tri_cells q4))
 have hgz : g < w1.heap.size := World.block_lt_of_cell? _ _ x0
 go_region_held3 (fun w' : World => (∀ a : Addr, (w1.cell? a).isSome = true → w'.cell? a = w1.cell? a) ∧ Later w1 w') (first | assumption | exact keep_call (by assumption) (by assumption) | exact keep_call (by assumption) ((Later.refl _).alloc _) | exact keep_init _ | exact ⟨Later.keeps (by assumption), by assumption⟩ | exact ⟨Later.keeps (by repeat' (with_reducible first | exact .refl _ | assumption | refine .drew ?_ | refine .drewN ?_ _ | refine .alloc ?_ _ | refine .put ?_ (by omega) _ | refine .trans ?_ (by assumption))), (by repeat' (with_reducible first | exact .refl _ | assumption | refine .drew ?_ | refine .drewN ?_ _ | refine .alloc ?_ _ | refine .put ?_ (by omega) _ | refine .trans ?_ (by assumption)))⟩) ((first | (go_at_call 212; (with_reducible refine (HX.out _).mono ?_); rintro e w2 ⟨rfl, hb2⟩)))
 all_goals
  rename_i hHw
  go_wp2
  go_ret
  exact ⟨ret_int rfl, hb1.trans hHw.2⟩
set_option maxHeartbeats 2000000 in
theorem ref13_flat (b o c : Nat) (ps : List Pt) (w : World) (hn : ps.length ≤ 64) (hat : PtsAt w b o ps) (hsm : AllSm ps) :
  Calls Tryz.prog 174 #[.slice (some ⟨b, o, none⟩) ps.length c] w (Ret (.int .i64 (straightAt ps)) w) := by
 go_enter Tryz.func174, Tryz.ntmps174
 go_wp2
 go_loopw [3] (fun ii wr => ∃ k : Nat, k ≤ ps.length ∧ ii = .int .i64 k ∧ straightAt ps = firstGo (fun k => decide (bendI ps k = 0)) (ps.length - k) k ∧ Later w wr) (fun ii _ => ps.length - (intOf ii).toNat)
 case atStart => exact ⟨0, by omega, rfl, rfl, Later.refl _⟩
 case round =>
  obtain ⟨k, hk, rfl, he, hb⟩ := hrel
  have He := Lib.hid he
  clear he
  by_cases hlt : k < ps.length
  ·have HB := Lib.hid (fun W (hW : Later wr W) => ref13_bend b o c k ps W hn hlt (hat.later (hb.trans hW)) hsm)
   have hw1 : IntKind.i64.wrap ((k : Int) + 1) = (k : Int) + 1 := IntWalk.i64_in _ (by omega)
   by_cases hbd : bendI ps k = 0
   ·have Hs := Lib.hid (first_hit (t := fun k => decide (bendI ps k = 0)) hlt (by simpa using hbd))
    rw [hbd] at HB
    go_wp2_with (first | (go_at_call 215; (with_reducible refine (HB.out _ (by repeat' (with_reducible first | exact .refl _ | assumption | refine .drew ?_ | refine .drewN ?_ _ | refine .alloc ?_ _ | refine .put ?_ (by omega) _ | refine .trans ?_ (by assumption)))).mono ?_); rintro e w2 ⟨rfl, hb2⟩))
    go_ret
    exact ⟨ret_int (by rw [He.out, Hs.out]), hb.trans hb2⟩
   ·have Hs := Lib.hid (first_miss (t := fun k => decide (bendI ps k = 0)) hlt (by simpa using hbd))
    have t1 : (bendI ps k == 0) = false := by simpa using hbd
    clear hbd
    generalize bendI ps k = bk at HB t1
    go_wp2_with (first | (go_at_call 215; (with_reducible refine (HB.out _ (by repeat' (with_reducible first | exact .refl _ | assumption | refine .drew ?_ | refine .drewN ?_ _ | refine .alloc ?_ _ | refine .put ?_ (by omega) _ | refine .trans ?_ (by assumption)))).mono ?_); rintro e w2 ⟨rfl, hb2⟩))
    go_roundw
    case rel => exact ⟨k + 1, by omega, by go_num, by rw [He.out, Hs.out], hb.trans hb2⟩
    case measure => simp [intOf]; omega
  ·go_wp2
   go_ret
   exact ⟨ret_int (by rw [He.out, show ps.length - k = 0 by omega]; rfl), hb⟩
def plk (a b c q : Pt) : Nat → Int
 | 0 => 1
 | 1 => min 1 (sgn (crossP a b q))
 | 2 => min (min 1 (sgn (crossP a b q))) (sgn (crossP b c q))
 | _ => min (min (min 1 (sgn (crossP a b q))) (sgn (crossP b c q))) (sgn (crossP c a q))
theorem plk_holds (a b c q : Pt) : plk a b c q 3 = holdsI a b c q := by
 show min (min (min 1 (sgn (crossP a b q))) (sgn (crossP b c q))) (sgn (crossP c a q)) = holdsI a b c q
 unfold holdsI sgn
 omega
attribute [local go_sem] ite_min ite_max
set_option maxHeartbeats 4000000 in
theorem ref13_place (g c0 : Nat) (a b c q : Pt) (w : World) (h : PtsAt w g 0 [a, b, c]) (sa : SmP a) (sb : SmP b) (sc : SmP c) (sq : SmP q) (ht : 0 < crossP a b c) :
  Calls Tryz.prog 231 #[.slice (some ⟨g, 0, none⟩) 3 c0, .agg #[.int .i64 q.x, .int .i64 q.y]] w (Ret (.int .i64 (holdsI a b c q)) w) := by
 obtain ⟨x0, x1, x2, x3, x4, x5⟩ := tri_cells h
 have hgz : g < w.heap.size := World.block_lt_of_cell? _ _ x0
 have hs : sgn (crossI a.x a.y b.x b.y c.x c.y) = 1 := (sgn_one _).2 ht
 have HX := Lib.hid (fun W => ref11_Cross _ _ _ _ _ _ W sa.1 sa.2 sb.1 sb.2 sc.1 sc.2)
 have H1 := Lib.hid (fun W => ref11_Cross _ _ _ _ _ _ W sa.1 sa.2 sb.1 sb.2 sq.1 sq.2)
 have H2 := Lib.hid (fun W => ref11_Cross _ _ _ _ _ _ W sb.1 sb.2 sc.1 sc.2 sq.1 sq.2)
 have H3 := Lib.hid (fun W => ref11_Cross _ _ _ _ _ _ W sc.1 sc.2 sa.1 sa.2 sq.1 sq.2)
 have HS := Lib.hid (fun W => ref13_sign (crossI a.x a.y b.x b.y c.x c.y) W)
 rw [hs] at HS
 go_enter Tryz.func231, Tryz.ntmps231
 go_wp2
 refine name_world (fun W hW => ?_)
 have hl : Later w W := by rw [hW]; exact (by repeat' (with_reducible first | exact .refl _ | assumption | refine .drew ?_ | refine .drewN ?_ _ | refine .alloc ?_ _ | refine .put ?_ (by omega) _ | refine .trans ?_ (by assumption)))
 have cq : Blk W w.heap.size 29 #[.int .i64 q.x, .int .i64 q.y] := by rw [hW]; exact Blk.new _ _ _
 have y0 := hl.cell x0
 have y1 := hl.cell x1
 have y2 := hl.cell x2
 have y3 := hl.cell x3
 have y4 := hl.cell x4
 have y5 := hl.cell x5
 have y6 : W.cell? ⟨w.heap.size, 0, none⟩ = some (.int .i64 q.x) := cq.cell 0
 have y7 : W.cell? ⟨w.heap.size, 1, none⟩ = some (.int .i64 q.y) := cq.cell 1
 generalize w.heap.size = N at *
 clear hW cq x0 x1 x2 x3 x4 x5
 go_region_held3 (fun w' : World => (∀ a : Addr, (W.cell? a).isSome = true → w'.cell? a = W.cell? a) ∧ Later W w') (first | assumption | exact keep_call (by assumption) (by assumption) | exact keep_call (by assumption) ((Later.refl _).alloc _) | exact keep_init _ | exact ⟨Later.keeps (by assumption), by assumption⟩ | exact ⟨Later.keeps (by repeat' (with_reducible first | exact .refl _ | assumption | refine .drew ?_ | refine .drewN ?_ _ | refine .alloc ?_ _ | refine .put ?_ (by omega) _ | refine .trans ?_ (by assumption))), (by repeat' (with_reducible first | exact .refl _ | assumption | refine .drew ?_ | refine .drewN ?_ _ | refine .alloc ?_ _ | refine .put ?_ (by omega) _ | refine .trans ?_ (by assumption)))⟩) ((first | (go_at_call 212; (with_reducible refine (HX.out _).mono ?_); rintro e w2 ⟨rfl, hb2⟩) | (go_at_call 236; (with_reducible refine (HS.out _).mono ?_); rintro e w3 ⟨rfl, rfl⟩)))
 all_goals
  rename_i hHw
  go_wp2
  go_loopw [6, 7] (fun ov ii wr => ∃ k : Nat, k ≤ 3 ∧ ii = .int .i64 k ∧ ov = .int .i64 (plk a b c q k) ∧ Later W wr) (fun _ ii _ => 3 - (intOf ii).toNat)
  case atStart => exact ⟨0, by omega, rfl, rfl, hHw.2⟩
  case round =>
   obtain ⟨k, hk, rfl, rfl, hb⟩ := hrel
   have z0 := hb.cell y0
   have z1 := hb.cell y1
   have z2 := hb.cell y2
   have z3 := hb.cell y3
   have z4 := hb.cell y4
   have z5 := hb.cell y5
   have z6 := hb.cell y6
   have z7 := hb.cell y7
   have r1 : (1 : Int).tmod 3 = 1 := rfl
   have r2 : (2 : Int).tmod 3 = 2 := rfl
   have r3 : (3 : Int).tmod 3 = 0 := rfl
   have r4 : IntKind.i64.wrap 1 = 1 := IntWalk.i64_in _ (by omega)
   have r5 : IntKind.i64.wrap 2 = 2 := IntWalk.i64_in _ (by omega)
   have r6 : IntKind.i64.wrap 3 = 3 := IntWalk.i64_in _ (by omega)
   rcases k with _ | _ | _ | _ | k
   ·have hwr : IntKind.i64.wrap (sgn (crossI a.x a.y b.x b.y q.x q.y)) = sgn (crossI a.x a.y b.x b.y q.x q.y) := IntWalk.i64_in _ (by have := sgn_bd (crossI a.x a.y b.x b.y q.x q.y); omega)
    have HG := Lib.hid (fun W => ref13_sign (crossI a.x a.y b.x b.y q.x q.y) W)
    have hv : plk a b c q 1 = min 1 (sgn (crossI a.x a.y b.x b.y q.x q.y)) := rfl
    have hv0 : plk a b c q 0 = 1 := rfl
    generalize crossI a.x a.y b.x b.y q.x q.y = cr0 at *
    go_wp2
    go_region_held3 (fun w' : World => (∀ a : Addr, (wr.cell? a).isSome = true → w'.cell? a = wr.cell? a) ∧ Later wr w') (first | assumption | exact keep_call (by assumption) (by assumption) | exact keep_call (by assumption) ((Later.refl _).alloc _) | exact keep_init _ | exact ⟨Later.keeps (by assumption), by assumption⟩ | exact ⟨Later.keeps (by repeat' (with_reducible first | exact .refl _ | assumption | refine .drew ?_ | refine .drewN ?_ _ | refine .alloc ?_ _ | refine .put ?_ (by omega) _ | refine .trans ?_ (by assumption))), (by repeat' (with_reducible first | exact .refl _ | assumption | refine .drew ?_ | refine .drewN ?_ _ | refine .alloc ?_ _ | refine .put ?_ (by omega) _ | refine .trans ?_ (by assumption)))⟩) ((first | (go_at_call 212; (with_reducible refine (H1.out _).mono ?_); rintro e w5 ⟨rfl, hb5⟩) | (go_at_call 236; (with_reducible refine (HG.out _).mono ?_); rintro e w6 ⟨rfl, rfl⟩)))
    all_goals
     rename_i hHw2
     go_wp2
     go_roundw
     case rel => exact ⟨1, by omega, by go_num, by rw [hv], hb.trans hHw2.2⟩
     case measure => simp [intOf]
   ·have hwr : IntKind.i64.wrap (sgn (crossI b.x b.y c.x c.y q.x q.y)) = sgn (crossI b.x b.y c.x c.y q.x q.y) := IntWalk.i64_in _ (by have := sgn_bd (crossI b.x b.y c.x c.y q.x q.y); omega)
    have HG := Lib.hid (fun W => ref13_sign (crossI b.x b.y c.x c.y q.x q.y) W)
    have hv : plk a b c q 2 = min (plk a b c q 1) (sgn (crossI b.x b.y c.x c.y q.x q.y)) := rfl
    generalize plk a b c q 1 = pv at *
    generalize crossI b.x b.y c.x c.y q.x q.y = cr0 at *
    go_wp2
    go_region_held3 (fun w' : World => (∀ a : Addr, (wr.cell? a).isSome = true → w'.cell? a = wr.cell? a) ∧ Later wr w') (first | assumption | exact keep_call (by assumption) (by assumption) | exact keep_call (by assumption) ((Later.refl _).alloc _) | exact keep_init _ | exact ⟨Later.keeps (by assumption), by assumption⟩ | exact ⟨Later.keeps (by repeat' (with_reducible first | exact .refl _ | assumption | refine .drew ?_ | refine .drewN ?_ _ | refine .alloc ?_ _ | refine .put ?_ (by omega) _ | refine .trans ?_ (by assumption))), (by repeat' (with_reducible first | exact .refl _ | assumption | refine .drew ?_ | refine .drewN ?_ _ | refine .alloc ?_ _ | refine .put ?_ (by omega) _ | refine .trans ?_ (by assumption)))⟩) ((first | (go_at_call 212; (with_reducible refine (H2.out _).mono ?_); rintro e w5 ⟨rfl, hb5⟩) | (go_at_call 236; (with_reducible refine (HG.out _).mono ?_); rintro e w6 ⟨rfl, rfl⟩)))
    all_goals
     rename_i hHw2
     go_wp2
     go_roundw
     case rel => exact ⟨2, by omega, by go_num, by rw [hv], hb.trans hHw2.2⟩
     case measure => simp [intOf]
   ·have hwr : IntKind.i64.wrap (sgn (crossI c.x c.y a.x a.y q.x q.y)) = sgn (crossI c.x c.y a.x a.y q.x q.y) := IntWalk.i64_in _ (by have := sgn_bd (crossI c.x c.y a.x a.y q.x q.y); omega)
    have HG := Lib.hid (fun W => ref13_sign (crossI c.x c.y a.x a.y q.x q.y) W)
    have hv : plk a b c q 3 = min (plk a b c q 2) (sgn (crossI c.x c.y a.x a.y q.x q.y)) := rfl
    generalize plk a b c q 2 = pv at *
    generalize crossI c.x c.y a.x a.y q.x q.y = cr0 at *
    go_wp2
    go_region_held3 (fun w' : World => (∀ a : Addr, (wr.cell? a).isSome = true → w'.cell? a = wr.cell? a) ∧ Later wr w') (first | assumption | exact keep_call (by assumption) (by assumption) | exact keep_call (by assumption) ((Later.refl _).alloc _) | exact keep_init _ | exact ⟨Later.keeps (by assumption), by assumption⟩ | exact ⟨Later.keeps (by repeat' (with_reducible first | exact .refl _ | assumption | refine .drew ?_ | refine .drewN ?_ _ | refine .alloc ?_ _ | refine .put ?_ (by omega) _ | refine .trans ?_ (by assumption))), (by repeat' (with_reducible first | exact .refl _ | assumption | refine .drew ?_ | refine .drewN ?_ _ | refine .alloc ?_ _ | refine .put ?_ (by omega) _ | refine .trans ?_ (by assumption)))⟩) ((first | (go_at_call 212; (with_reducible refine (H3.out _).mono ?_); rintro e w5 ⟨rfl, hb5⟩) | (go_at_call 236; (with_reducible refine (HG.out _).mono ?_); rintro e w6 ⟨rfl, rfl⟩)))
    all_goals
     rename_i hHw2
     go_wp2
     go_roundw
     case rel => exact ⟨3, by omega, by go_num, by rw [hv], hb.trans hHw2.2⟩
     case measure => simp [intOf]
   ·go_wp2
    go_ret
    exact ⟨ret_int (by rw [← plk_holds]), hl.trans hb⟩
   ·omega
set_option maxHeartbeats 4000000 in
theorem ref13_free (b o cc i : Nat) (ps : List Pt) (w : World) (hn : ps.length ≤ 64) (hi : i < ps.length) (hat : PtsAt w b o ps) (hin : AllIn ps) (ht : 0 < bendI ps i) :
  Calls Tryz.prog 216 #[.slice (some ⟨b, o, none⟩) ps.length cc, .int .i64 i] w (Ret (.bool (freeGo (gp ps ((i + ps.length - 1) % ps.length)) (gp ps i) (gp ps ((i + 1) % ps.length)) ps)) w) := by
 have i0 := hin ((i + ps.length - 1) % ps.length)
 have i1 := hin i
 have i2 := hin ((i + 1) % ps.length)
 have HA := Lib.hid (fun W (hW : Later w W) => ref13_around b o cc i ps W hn hi (hat.later hW))
 unfold bendI at ht
 generalize gp ps ((i + ps.length - 1) % ps.length) = a at *
 generalize gp ps i = p at *
 generalize gp ps ((i + 1) % ps.length) = c at *
 go_enter Tryz.func216, Tryz.ntmps216
 go_wp2_with (first
  | (go_at_call 176; (with_reducible refine (HA.out _ (by repeat' (with_reducible first | exact .refl _ | assumption | refine .drew ?_ | refine .drewN ?_ _ | refine .alloc ?_ _ | refine .put ?_ (by omega) _ | refine .trans ?_ (by assumption)))).mono ?_); rintro e w1 ⟨g, rfl, q4, hg, hb1⟩))
 go_loopw [6] (fun ii wr => ∃ k : Nat, k ≤ ps.length ∧ ii = .int .i64 k ∧ freeGo a p c ps = freeGo a p c (ps.drop k) ∧ Later w1 wr) (fun ii _ => ps.length - (intOf ii).toNat)
 case atStart => exact ⟨0, by omega, rfl, rfl, Later.refl _⟩
 case round =>
  obtain ⟨k, hk, rfl, he, hb⟩ := hrel
  have He := Lib.hid he
  clear he
  by_cases hlt : k < ps.length
  ·obtain ⟨x0, x1, x2, x3, x4, x5⟩ := tri_cells (q4.later hb)
   obtain ⟨e1, e2⟩ := (hat.later (hb1.trans hb)).get hlt
   have hbz : b < wr.heap.size := World.block_lt_of_cell? _ _ e1
   have hgz : g < wr.heap.size := World.block_lt_of_cell? _ _ x0
   have Hd := Lib.hid (drop_cons ps k hlt)
   have hq : outP (ps[k]) = false := by rw [← gp_eq hlt]; exact hin k
   have j1 : (0 : Int) ≤ (k : Int) := by omega
   have j2 : (k : Int) < (ps.length : Int) := by omega
   have hw1 : IntKind.i64.wrap ((k : Int) + 1) = (k : Int) + 1 := IntWalk.i64_in _ (by omega)
   have HP := Lib.hid (fun W (hW : Later w1 W) => ref13_place g 3 a p c (ps[k]) W (q4.later hW) (out_sm i0) (out_sm i1) (out_sm i2) (out_sm hq) ht)
   generalize ps[k] = q at *
   obtain ⟨qx, qy⟩ := q
   simp only [] at e1 e2 HP
   have same : ∀ r : Pt, (⟨qx, qy⟩ : Pt) = r → ∀ W, (binOp .neq 29 (.agg #[.int .i64 qx, .int .i64 qy]) (.agg #[.int .i64 r.x, .int .i64 r.y])).run Tryz.prog W = .ok (.bool false) W := by
    intro r hr W
    rw [neq_spot, ← hr]
    simp
   have other : ∀ r : Pt, (⟨qx, qy⟩ : Pt) ≠ r → ∀ W, (binOp .neq 29 (.agg #[.int .i64 qx, .int .i64 qy]) (.agg #[.int .i64 r.x, .int .i64 r.y])).run Tryz.prog W = .ok (.bool true) W := by
    intro r hr W
    rw [neq_spot]
    congr 2
    rw [Ne, pt_eq] at hr
    simp only [Bool.not_eq_true', Bool.and_eq_false_iff, beq_eq_false_iff_ne]
    simp only [] at hr
    omega
   have next : freeGo a p c (⟨qx, qy⟩ :: ps.drop (k + 1)) = freeGo a p c (ps.drop (k + 1)) → freeGo a p c ps = freeGo a p c (ps.drop (k + 1)) := fun h => by rw [He.out, Hd.out, h]
   by_cases ca : (⟨qx, qy⟩ : Pt) = a
   ·have n1 := same a ca
    have Hn := Lib.hid (next (free_miss (by intro h; exact h.1.1 ca)))
    clear same other next ca
    go_wp2
    refine wp_region_held_drew (S := (fun w' : World => (∀ a : Addr, (wr.cell? a).isSome = true → w'.cell? a = wr.cell? a) ∧ Later wr w')) (by kernel_rfl) (keep_init _) (fun hHeld => ?_)
    refine take_at (i := 0) (d := 16) (v := ?_) rfl rfl (by kernel_rfl) (by kernel_rfl) (by kernel_rfl) (fun _ _ _ h => h) (by rfl) ?_ (by assumption) ?_
    rotate_left
    ·(intro w hSw; (try dsimp only at hSw); go_simp; (try with_reducible rfl))
    simp only [Act.put, lsA, lsZ, lsS]
    refine take_at (i := 1) (d := 17) (v := ?_) rfl rfl (by kernel_rfl) (by kernel_rfl) (by kernel_rfl) (fun _ _ _ h => h) (by rfl) ?_ (by assumption) ?_
    rotate_left
    ·(intro w hSw; (try dsimp only at hSw); go_simp; (try with_reducible rfl))
    simp only [Act.put, lsA, lsZ, lsS]
    refine take_at (i := 2) (d := 18) (v := ?_) rfl rfl (by kernel_rfl) (by kernel_rfl) (by kernel_rfl) (fun _ _ _ h => h) (by rfl) ?_ (by assumption) ?_
    rotate_left
    ·(intro w hSw; (try dsimp only at hSw); go_simp; (try with_reducible rfl))
    simp only [Act.put, lsA, lsZ, lsS]
    refine take_at (i := 3) (d := 19) (v := ?_) rfl rfl (by kernel_rfl) (by kernel_rfl) (by kernel_rfl) (fun _ _ _ h => h) (by rfl) ?_ (by assumption) ?_
    rotate_left
    ·(intro w hSw; (try dsimp only at hSw); go_simp; (try with_reducible rfl))
    simp only [Act.put, lsA, lsZ, lsS]
    refine take_at (i := 4) (d := 20) (v := ?_) rfl rfl (by kernel_rfl) (by kernel_rfl) (by kernel_rfl) (fun _ _ _ h => h) (by rfl) ?_ (by assumption) ?_
    rotate_left
    ·(intro w hSw; (try dsimp only at hSw); go_simp; (try with_reducible rfl))
    simp only [Act.put, lsA, lsZ, lsS]
    refine take_at (i := 5) (d := 21) (v := ?_) rfl rfl (by kernel_rfl) (by kernel_rfl) (by kernel_rfl) (fun _ _ _ h => h) (by rfl) ?_ (by assumption) ?_
    rotate_left
    ·(intro w hSw; (try dsimp only at hSw); go_simp; (try with_reducible rfl))
    simp only [Act.put, lsA, lsZ, lsS]
    refine take_at (i := 6) (d := 22) (v := ?_) rfl rfl (by kernel_rfl) (by kernel_rfl) (by kernel_rfl) (fun _ _ _ h => h) (by rfl) ?_ (by assumption) ?_
    rotate_left
    ·(intro w hSw; (try dsimp only at hSw); go_simp; (try with_reducible rfl))
    simp only [Act.put, lsA, lsZ, lsS]
    refine take_at (i := 7) (d := 23) (v := ?_) rfl rfl (by kernel_rfl) (by kernel_rfl) (by kernel_rfl) (fun _ _ _ h => h) (by rfl) ?_ (by assumption) ?_
    rotate_left
    ·(intro w hSw; (try dsimp only at hSw); go_simp; (try with_reducible rfl))
    simp only [Act.put, lsA, lsZ, lsS]
    refine take_at (i := 8) (d := 24) (v := ?_) rfl rfl (by kernel_rfl) (by kernel_rfl) (by kernel_rfl) (fun _ _ _ h => h) (by rfl) ?_ (by assumption) ?_
    rotate_left
    ·(intro w hSw; (try dsimp only at hSw); go_simp; (try with_reducible rfl))
    simp only [Act.put, lsA, lsZ, lsS]
    refine skip_at (i := 9) (d := 25) rfl rfl (by kernel_rfl) (by kernel_rfl) (by kernel_rfl) (fun _ _ _ h => h) (by rfl) (by assumption) ?_
    simp only [Act.put, lsA, lsZ, lsS]
    refine skip_at (i := 10) (d := 26) rfl rfl (by kernel_rfl) (by kernel_rfl) (by kernel_rfl) (fun _ _ _ h => h) (by rfl) (by assumption) ?_
    simp only [Act.put, lsA, lsZ, lsS]
    refine skip_at (i := 11) (d := 27) rfl rfl (by kernel_rfl) (by kernel_rfl) (by kernel_rfl) (fun _ _ _ h => h) (by rfl) (by assumption) ?_
    simp only [Act.put, lsA, lsZ, lsS]
    refine skip_at (i := 12) (d := 28) rfl rfl (by kernel_rfl) (by kernel_rfl) (by kernel_rfl) (fun _ _ _ h => h) (by rfl) (by assumption) ?_
    simp only [Act.put, lsA, lsZ, lsS]
    refine skip_at (i := 13) (d := 29) rfl rfl (by kernel_rfl) (by kernel_rfl) (by kernel_rfl) (fun _ _ _ h => h) (by rfl) (by assumption) ?_
    simp only [Act.put, lsA, lsZ, lsS]
    refine skip_at (i := 14) (d := 30) rfl rfl (by kernel_rfl) (by kernel_rfl) (by kernel_rfl) (fun _ _ _ h => h) (by rfl) (by assumption) ?_
    simp only [Act.put, lsA, lsZ, lsS]
    refine skip_at (i := 15) (d := 31) rfl rfl (by kernel_rfl) (by kernel_rfl) (by kernel_rfl) (fun _ _ _ h => h) (by rfl) (by assumption) ?_
    simp only [Act.put, lsA, lsZ, lsS]
    refine skip_at (i := 16) (d := 32) rfl rfl (by kernel_rfl) (by kernel_rfl) (by kernel_rfl) (fun _ _ _ h => h) (by rfl) (by assumption) ?_
    simp only [Act.put, lsA, lsZ, lsS]
    refine take_at (i := 17) (d := 33) (v := ?_) rfl rfl (by kernel_rfl) (by kernel_rfl) (by kernel_rfl) (fun _ _ _ h => h) (by rfl) ?_ (by assumption) ?_
    rotate_left
    ·(intro w hSw; (try dsimp only at hSw); go_simp; (try with_reducible rfl))
    simp only [Act.put, lsA, lsZ, lsS]
    refine take_at (i := 18) (d := 34) (v := ?_) rfl rfl (by kernel_rfl) (by kernel_rfl) (by kernel_rfl) (fun _ _ _ h => h) (by rfl) ?_ (by assumption) ?_
    rotate_left
    ·(intro w hSw; (try dsimp only at hSw); go_simp; (try with_reducible rfl))
    simp only [Act.put, lsA, lsZ, lsS]
    refine skip_at (i := 19) (d := 35) rfl rfl (by kernel_rfl) (by kernel_rfl) (by kernel_rfl) (fun _ _ _ h => h) (by rfl) (by assumption) ?_
    simp only [Act.put, lsA, lsZ, lsS]
    refine skip_at (i := 20) (d := 36) rfl rfl (by kernel_rfl) (by kernel_rfl) (by kernel_rfl) (fun _ _ _ h => h) (by rfl) (by assumption) ?_
    simp only [Act.put, lsA, lsZ, lsS]
    refine skip_at (i := 21) (d := 37) rfl rfl (by kernel_rfl) (by kernel_rfl) (by kernel_rfl) (fun _ _ _ h => h) (by rfl) (by assumption) ?_
    simp only [Act.put, lsA, lsZ, lsS]
    refine skip_at (i := 22) (d := 38) rfl rfl (by kernel_rfl) (by kernel_rfl) (by kernel_rfl) (fun _ _ _ h => h) (by rfl) (by assumption) ?_
    simp only [Act.put, lsA, lsZ, lsS]
    refine skip_at (i := 23) (d := 39) rfl rfl (by kernel_rfl) (by kernel_rfl) (by kernel_rfl) (fun _ _ _ h => h) (by rfl) (by assumption) ?_
    simp only [Act.put, lsA, lsZ, lsS]
    refine skip_at (i := 24) (d := 40) rfl rfl (by kernel_rfl) (by kernel_rfl) (by kernel_rfl) (fun _ _ _ h => h) (by rfl) (by assumption) ?_
    simp only [Act.put, lsA, lsZ, lsS]
    refine skip_at (i := 25) (d := 41) rfl rfl (by kernel_rfl) (by kernel_rfl) (by kernel_rfl) (fun _ _ _ h => h) (by rfl) (by assumption) ?_
    simp only [Act.put, lsA, lsZ, lsS]
    refine skip_at (i := 26) (d := 42) rfl rfl (by kernel_rfl) (by kernel_rfl) (by kernel_rfl) (fun _ _ _ h => h) (by rfl) (by assumption) ?_
    simp only [Act.put, lsA, lsZ, lsS]
    refine take_at (i := 27) (d := 43) (v := ?_) rfl rfl (by kernel_rfl) (by kernel_rfl) (by kernel_rfl) (fun _ _ _ h => h) (by rfl) ?_ (by assumption) ?_
    rotate_left
    ·(intro w hSw; (try dsimp only at hSw); go_simp; (try with_reducible rfl))
    simp only [Act.put, lsA, lsZ, lsS]
    refine take_at (i := 28) (d := 44) (v := ?_) rfl rfl (by kernel_rfl) (by kernel_rfl) (by kernel_rfl) (fun _ _ _ h => h) (by rfl) ?_ (by assumption) ?_
    rotate_left
    ·(intro w hSw; (try dsimp only at hSw); go_simp; (try with_reducible rfl))
    simp only [Act.put, lsA, lsZ, lsS]
    refine skip_at (i := 29) (d := 45) rfl rfl (by kernel_rfl) (by kernel_rfl) (by kernel_rfl) (fun _ _ _ h => h) (by rfl) (by assumption) ?_
    simp only [Act.put, lsA, lsZ, lsS]
    refine skip_at (i := 30) (d := 46) rfl rfl (by kernel_rfl) (by kernel_rfl) (by kernel_rfl) (fun _ _ _ h => h) (by rfl) (by assumption) ?_
    simp only [Act.put, lsA, lsZ, lsS]
    refine skip_at (i := 31) (d := 47) rfl rfl (by kernel_rfl) (by kernel_rfl) (by kernel_rfl) (fun _ _ _ h => h) (by rfl) (by assumption) ?_
    simp only [Act.put, lsA, lsZ, lsS]
    refine skip_at (i := 32) (d := 48) rfl rfl (by kernel_rfl) (by kernel_rfl) (by kernel_rfl) (fun _ _ _ h => h) (by rfl) (by assumption) ?_
    simp only [Act.put, lsA, lsZ, lsS]
    refine skip_at (i := 33) (d := 49) rfl rfl (by kernel_rfl) (by kernel_rfl) (by kernel_rfl) (fun _ _ _ h => h) (by rfl) (by assumption) ?_
    simp only [Act.put, lsA, lsZ, lsS]
    refine skip_at (i := 34) (d := 50) rfl rfl (by kernel_rfl) (by kernel_rfl) (by kernel_rfl) (fun _ _ _ h => h) (by rfl) (by assumption) ?_
    simp only [Act.put, lsA, lsZ, lsS]
    refine skip_at (i := 35) (d := 51) rfl rfl (by kernel_rfl) (by kernel_rfl) (by kernel_rfl) (fun _ _ _ h => h) (by rfl) (by assumption) ?_
    simp only [Act.put, lsA, lsZ, lsS]
    refine take_at (i := 36) (d := 52) (v := ?_) rfl rfl (by kernel_rfl) (by kernel_rfl) (by kernel_rfl) (fun _ _ _ h => h) (by rfl) ?_ (by assumption) ?_
    rotate_left
    ·(intro w hSw; (try dsimp only at hSw); go_simp; (try with_reducible rfl))
    simp only [Act.put, lsA, lsZ, lsS]
    refine wpAnyH_done (by kernel_rfl) ?_ _
    go_wp2
    go_roundw
    case rel => exact ⟨k + 1, by omega, by go_num, Hn.out, hb.drew⟩
    case measure => simp [intOf]; omega
   by_cases cp : (⟨qx, qy⟩ : Pt) = p
   ·have n1 := other a ca
    have n2 := same p cp
    have Hn := Lib.hid (next (free_miss (by intro h; exact h.1.2.1 cp)))
    clear same other next ca cp
    go_wp2
    refine wp_region_held_drew (S := (fun w' : World => (∀ a : Addr, (wr.cell? a).isSome = true → w'.cell? a = wr.cell? a) ∧ Later wr w')) (by kernel_rfl) (keep_init _) (fun hHeld => ?_)
    refine take_at (i := 0) (d := 16) (v := ?_) rfl rfl (by kernel_rfl) (by kernel_rfl) (by kernel_rfl) (fun _ _ _ h => h) (by rfl) ?_ (by assumption) ?_
    rotate_left
    ·(intro w hSw; (try dsimp only at hSw); go_simp; (try with_reducible rfl))
    simp only [Act.put, lsA, lsZ, lsS]
    refine take_at (i := 1) (d := 17) (v := ?_) rfl rfl (by kernel_rfl) (by kernel_rfl) (by kernel_rfl) (fun _ _ _ h => h) (by rfl) ?_ (by assumption) ?_
    rotate_left
    ·(intro w hSw; (try dsimp only at hSw); go_simp; (try with_reducible rfl))
    simp only [Act.put, lsA, lsZ, lsS]
    refine take_at (i := 2) (d := 18) (v := ?_) rfl rfl (by kernel_rfl) (by kernel_rfl) (by kernel_rfl) (fun _ _ _ h => h) (by rfl) ?_ (by assumption) ?_
    rotate_left
    ·(intro w hSw; (try dsimp only at hSw); go_simp; (try with_reducible rfl))
    simp only [Act.put, lsA, lsZ, lsS]
    refine take_at (i := 3) (d := 19) (v := ?_) rfl rfl (by kernel_rfl) (by kernel_rfl) (by kernel_rfl) (fun _ _ _ h => h) (by rfl) ?_ (by assumption) ?_
    rotate_left
    ·(intro w hSw; (try dsimp only at hSw); go_simp; (try with_reducible rfl))
    simp only [Act.put, lsA, lsZ, lsS]
    refine take_at (i := 4) (d := 20) (v := ?_) rfl rfl (by kernel_rfl) (by kernel_rfl) (by kernel_rfl) (fun _ _ _ h => h) (by rfl) ?_ (by assumption) ?_
    rotate_left
    ·(intro w hSw; (try dsimp only at hSw); go_simp; (try with_reducible rfl))
    simp only [Act.put, lsA, lsZ, lsS]
    refine take_at (i := 5) (d := 21) (v := ?_) rfl rfl (by kernel_rfl) (by kernel_rfl) (by kernel_rfl) (fun _ _ _ h => h) (by rfl) ?_ (by assumption) ?_
    rotate_left
    ·(intro w hSw; (try dsimp only at hSw); go_simp; (try with_reducible rfl))
    simp only [Act.put, lsA, lsZ, lsS]
    refine take_at (i := 6) (d := 22) (v := ?_) rfl rfl (by kernel_rfl) (by kernel_rfl) (by kernel_rfl) (fun _ _ _ h => h) (by rfl) ?_ (by assumption) ?_
    rotate_left
    ·(intro w hSw; (try dsimp only at hSw); go_simp; (try with_reducible rfl))
    simp only [Act.put, lsA, lsZ, lsS]
    refine take_at (i := 7) (d := 23) (v := ?_) rfl rfl (by kernel_rfl) (by kernel_rfl) (by kernel_rfl) (fun _ _ _ h => h) (by rfl) ?_ (by assumption) ?_
    rotate_left
    ·(intro w hSw; (try dsimp only at hSw); go_simp; (try with_reducible rfl))
    simp only [Act.put, lsA, lsZ, lsS]
    refine take_at (i := 8) (d := 24) (v := ?_) rfl rfl (by kernel_rfl) (by kernel_rfl) (by kernel_rfl) (fun _ _ _ h => h) (by rfl) ?_ (by assumption) ?_
    rotate_left
    ·(intro w hSw; (try dsimp only at hSw); go_simp; (try with_reducible rfl))
    simp only [Act.put, lsA, lsZ, lsS]
    refine take_at (i := 9) (d := 25) (v := ?_) rfl rfl (by kernel_rfl) (by kernel_rfl) (by kernel_rfl) (fun _ _ _ h => h) (by rfl) ?_ (by assumption) ?_
    rotate_left
    ·(intro w hSw; (try dsimp only at hSw); go_simp; (try with_reducible rfl))
    simp only [Act.put, lsA, lsZ, lsS]
    refine take_at (i := 10) (d := 26) (v := ?_) rfl rfl (by kernel_rfl) (by kernel_rfl) (by kernel_rfl) (fun _ _ _ h => h) (by rfl) ?_ (by assumption) ?_
    rotate_left
    ·(intro w hSw; (try dsimp only at hSw); go_simp; (try with_reducible rfl))
    simp only [Act.put, lsA, lsZ, lsS]
    refine take_at (i := 11) (d := 27) (v := ?_) rfl rfl (by kernel_rfl) (by kernel_rfl) (by kernel_rfl) (fun _ _ _ h => h) (by rfl) ?_ (by assumption) ?_
    rotate_left
    ·(intro w hSw; (try dsimp only at hSw); go_simp; (try with_reducible rfl))
    simp only [Act.put, lsA, lsZ, lsS]
    refine take_at (i := 12) (d := 28) (v := ?_) rfl rfl (by kernel_rfl) (by kernel_rfl) (by kernel_rfl) (fun _ _ _ h => h) (by rfl) ?_ (by assumption) ?_
    rotate_left
    ·(intro w hSw; (try dsimp only at hSw); go_simp; (try with_reducible rfl))
    simp only [Act.put, lsA, lsZ, lsS]
    refine take_at (i := 13) (d := 29) (v := ?_) rfl rfl (by kernel_rfl) (by kernel_rfl) (by kernel_rfl) (fun _ _ _ h => h) (by rfl) ?_ (by assumption) ?_
    rotate_left
    ·(intro w hSw; (try dsimp only at hSw); go_simp; (try with_reducible rfl))
    simp only [Act.put, lsA, lsZ, lsS]
    refine take_at (i := 14) (d := 30) (v := ?_) rfl rfl (by kernel_rfl) (by kernel_rfl) (by kernel_rfl) (fun _ _ _ h => h) (by rfl) ?_ (by assumption) ?_
    rotate_left
    ·(intro w hSw; (try dsimp only at hSw); go_simp; (try with_reducible rfl))
    simp only [Act.put, lsA, lsZ, lsS]
    refine take_at (i := 15) (d := 31) (v := ?_) rfl rfl (by kernel_rfl) (by kernel_rfl) (by kernel_rfl) (fun _ _ _ h => h) (by rfl) ?_ (by assumption) ?_
    rotate_left
    ·(intro w hSw; (try dsimp only at hSw); go_simp; (try with_reducible rfl))
    simp only [Act.put, lsA, lsZ, lsS]
    refine take_at (i := 16) (d := 32) (v := ?_) rfl rfl (by kernel_rfl) (by kernel_rfl) (by kernel_rfl) (fun _ _ _ h => h) (by rfl) ?_ (by assumption) ?_
    rotate_left
    ·(intro w hSw; (try dsimp only at hSw); go_simp; (try with_reducible rfl))
    simp only [Act.put, lsA, lsZ, lsS]
    refine take_at (i := 17) (d := 33) (v := ?_) rfl rfl (by kernel_rfl) (by kernel_rfl) (by kernel_rfl) (fun _ _ _ h => h) (by rfl) ?_ (by assumption) ?_
    rotate_left
    ·(intro w hSw; (try dsimp only at hSw); go_simp; (try with_reducible rfl))
    simp only [Act.put, lsA, lsZ, lsS]
    refine take_at (i := 18) (d := 34) (v := ?_) rfl rfl (by kernel_rfl) (by kernel_rfl) (by kernel_rfl) (fun _ _ _ h => h) (by rfl) ?_ (by assumption) ?_
    rotate_left
    ·(intro w hSw; (try dsimp only at hSw); go_simp; (try with_reducible rfl))
    simp only [Act.put, lsA, lsZ, lsS]
    refine skip_at (i := 19) (d := 35) rfl rfl (by kernel_rfl) (by kernel_rfl) (by kernel_rfl) (fun _ _ _ h => h) (by rfl) (by assumption) ?_
    simp only [Act.put, lsA, lsZ, lsS]
    refine skip_at (i := 20) (d := 36) rfl rfl (by kernel_rfl) (by kernel_rfl) (by kernel_rfl) (fun _ _ _ h => h) (by rfl) (by assumption) ?_
    simp only [Act.put, lsA, lsZ, lsS]
    refine skip_at (i := 21) (d := 37) rfl rfl (by kernel_rfl) (by kernel_rfl) (by kernel_rfl) (fun _ _ _ h => h) (by rfl) (by assumption) ?_
    simp only [Act.put, lsA, lsZ, lsS]
    refine skip_at (i := 22) (d := 38) rfl rfl (by kernel_rfl) (by kernel_rfl) (by kernel_rfl) (fun _ _ _ h => h) (by rfl) (by assumption) ?_
    simp only [Act.put, lsA, lsZ, lsS]
    refine skip_at (i := 23) (d := 39) rfl rfl (by kernel_rfl) (by kernel_rfl) (by kernel_rfl) (fun _ _ _ h => h) (by rfl) (by assumption) ?_
    simp only [Act.put, lsA, lsZ, lsS]
    refine skip_at (i := 24) (d := 40) rfl rfl (by kernel_rfl) (by kernel_rfl) (by kernel_rfl) (fun _ _ _ h => h) (by rfl) (by assumption) ?_
    simp only [Act.put, lsA, lsZ, lsS]
    refine skip_at (i := 25) (d := 41) rfl rfl (by kernel_rfl) (by kernel_rfl) (by kernel_rfl) (fun _ _ _ h => h) (by rfl) (by assumption) ?_
    simp only [Act.put, lsA, lsZ, lsS]
    refine skip_at (i := 26) (d := 42) rfl rfl (by kernel_rfl) (by kernel_rfl) (by kernel_rfl) (fun _ _ _ h => h) (by rfl) (by assumption) ?_
    simp only [Act.put, lsA, lsZ, lsS]
    refine take_at (i := 27) (d := 43) (v := ?_) rfl rfl (by kernel_rfl) (by kernel_rfl) (by kernel_rfl) (fun _ _ _ h => h) (by rfl) ?_ (by assumption) ?_
    rotate_left
    ·(intro w hSw; (try dsimp only at hSw); go_simp; (try with_reducible rfl))
    simp only [Act.put, lsA, lsZ, lsS]
    refine take_at (i := 28) (d := 44) (v := ?_) rfl rfl (by kernel_rfl) (by kernel_rfl) (by kernel_rfl) (fun _ _ _ h => h) (by rfl) ?_ (by assumption) ?_
    rotate_left
    ·(intro w hSw; (try dsimp only at hSw); go_simp; (try with_reducible rfl))
    simp only [Act.put, lsA, lsZ, lsS]
    refine skip_at (i := 29) (d := 45) rfl rfl (by kernel_rfl) (by kernel_rfl) (by kernel_rfl) (fun _ _ _ h => h) (by rfl) (by assumption) ?_
    simp only [Act.put, lsA, lsZ, lsS]
    refine skip_at (i := 30) (d := 46) rfl rfl (by kernel_rfl) (by kernel_rfl) (by kernel_rfl) (fun _ _ _ h => h) (by rfl) (by assumption) ?_
    simp only [Act.put, lsA, lsZ, lsS]
    refine skip_at (i := 31) (d := 47) rfl rfl (by kernel_rfl) (by kernel_rfl) (by kernel_rfl) (fun _ _ _ h => h) (by rfl) (by assumption) ?_
    simp only [Act.put, lsA, lsZ, lsS]
    refine skip_at (i := 32) (d := 48) rfl rfl (by kernel_rfl) (by kernel_rfl) (by kernel_rfl) (fun _ _ _ h => h) (by rfl) (by assumption) ?_
    simp only [Act.put, lsA, lsZ, lsS]
    refine skip_at (i := 33) (d := 49) rfl rfl (by kernel_rfl) (by kernel_rfl) (by kernel_rfl) (fun _ _ _ h => h) (by rfl) (by assumption) ?_
    simp only [Act.put, lsA, lsZ, lsS]
    refine skip_at (i := 34) (d := 50) rfl rfl (by kernel_rfl) (by kernel_rfl) (by kernel_rfl) (fun _ _ _ h => h) (by rfl) (by assumption) ?_
    simp only [Act.put, lsA, lsZ, lsS]
    refine skip_at (i := 35) (d := 51) rfl rfl (by kernel_rfl) (by kernel_rfl) (by kernel_rfl) (fun _ _ _ h => h) (by rfl) (by assumption) ?_
    simp only [Act.put, lsA, lsZ, lsS]
    refine take_at (i := 36) (d := 52) (v := ?_) rfl rfl (by kernel_rfl) (by kernel_rfl) (by kernel_rfl) (fun _ _ _ h => h) (by rfl) ?_ (by assumption) ?_
    rotate_left
    ·(intro w hSw; (try dsimp only at hSw); go_simp; (try with_reducible rfl))
    simp only [Act.put, lsA, lsZ, lsS]
    refine wpAnyH_done (by kernel_rfl) ?_ _
    go_wp2
    go_roundw
    case rel => exact ⟨k + 1, by omega, by go_num, Hn.out, hb.drew⟩
    case measure => simp [intOf]; omega
   by_cases cc' : (⟨qx, qy⟩ : Pt) = c
   ·have n1 := other a ca
    have n2 := other p cp
    have n3 := same c cc'
    have Hn := Lib.hid (next (free_miss (by intro h; exact h.1.2.2 cc')))
    clear same other next ca cp cc'
    go_wp2
    refine wp_region_held_drew (S := (fun w' : World => (∀ a : Addr, (wr.cell? a).isSome = true → w'.cell? a = wr.cell? a) ∧ Later wr w')) (by kernel_rfl) (keep_init _) (fun hHeld => ?_)
    refine take_at (i := 0) (d := 16) (v := ?_) rfl rfl (by kernel_rfl) (by kernel_rfl) (by kernel_rfl) (fun _ _ _ h => h) (by rfl) ?_ (by assumption) ?_
    rotate_left
    ·(intro w hSw; (try dsimp only at hSw); go_simp; (try with_reducible rfl))
    simp only [Act.put, lsA, lsZ, lsS]
    refine take_at (i := 1) (d := 17) (v := ?_) rfl rfl (by kernel_rfl) (by kernel_rfl) (by kernel_rfl) (fun _ _ _ h => h) (by rfl) ?_ (by assumption) ?_
    rotate_left
    ·(intro w hSw; (try dsimp only at hSw); go_simp; (try with_reducible rfl))
    simp only [Act.put, lsA, lsZ, lsS]
    refine take_at (i := 2) (d := 18) (v := ?_) rfl rfl (by kernel_rfl) (by kernel_rfl) (by kernel_rfl) (fun _ _ _ h => h) (by rfl) ?_ (by assumption) ?_
    rotate_left
    ·(intro w hSw; (try dsimp only at hSw); go_simp; (try with_reducible rfl))
    simp only [Act.put, lsA, lsZ, lsS]
    refine take_at (i := 3) (d := 19) (v := ?_) rfl rfl (by kernel_rfl) (by kernel_rfl) (by kernel_rfl) (fun _ _ _ h => h) (by rfl) ?_ (by assumption) ?_
    rotate_left
    ·(intro w hSw; (try dsimp only at hSw); go_simp; (try with_reducible rfl))
    simp only [Act.put, lsA, lsZ, lsS]
    refine take_at (i := 4) (d := 20) (v := ?_) rfl rfl (by kernel_rfl) (by kernel_rfl) (by kernel_rfl) (fun _ _ _ h => h) (by rfl) ?_ (by assumption) ?_
    rotate_left
    ·(intro w hSw; (try dsimp only at hSw); go_simp; (try with_reducible rfl))
    simp only [Act.put, lsA, lsZ, lsS]
    refine take_at (i := 5) (d := 21) (v := ?_) rfl rfl (by kernel_rfl) (by kernel_rfl) (by kernel_rfl) (fun _ _ _ h => h) (by rfl) ?_ (by assumption) ?_
    rotate_left
    ·(intro w hSw; (try dsimp only at hSw); go_simp; (try with_reducible rfl))
    simp only [Act.put, lsA, lsZ, lsS]
    refine take_at (i := 6) (d := 22) (v := ?_) rfl rfl (by kernel_rfl) (by kernel_rfl) (by kernel_rfl) (fun _ _ _ h => h) (by rfl) ?_ (by assumption) ?_
    rotate_left
    ·(intro w hSw; (try dsimp only at hSw); go_simp; (try with_reducible rfl))
    simp only [Act.put, lsA, lsZ, lsS]
    refine take_at (i := 7) (d := 23) (v := ?_) rfl rfl (by kernel_rfl) (by kernel_rfl) (by kernel_rfl) (fun _ _ _ h => h) (by rfl) ?_ (by assumption) ?_
    rotate_left
    ·(intro w hSw; (try dsimp only at hSw); go_simp; (try with_reducible rfl))
    simp only [Act.put, lsA, lsZ, lsS]
    refine take_at (i := 8) (d := 24) (v := ?_) rfl rfl (by kernel_rfl) (by kernel_rfl) (by kernel_rfl) (fun _ _ _ h => h) (by rfl) ?_ (by assumption) ?_
    rotate_left
    ·(intro w hSw; (try dsimp only at hSw); go_simp; (try with_reducible rfl))
    simp only [Act.put, lsA, lsZ, lsS]
    refine take_at (i := 9) (d := 25) (v := ?_) rfl rfl (by kernel_rfl) (by kernel_rfl) (by kernel_rfl) (fun _ _ _ h => h) (by rfl) ?_ (by assumption) ?_
    rotate_left
    ·(intro w hSw; (try dsimp only at hSw); go_simp; (try with_reducible rfl))
    simp only [Act.put, lsA, lsZ, lsS]
    refine take_at (i := 10) (d := 26) (v := ?_) rfl rfl (by kernel_rfl) (by kernel_rfl) (by kernel_rfl) (fun _ _ _ h => h) (by rfl) ?_ (by assumption) ?_
    rotate_left
    ·(intro w hSw; (try dsimp only at hSw); go_simp; (try with_reducible rfl))
    simp only [Act.put, lsA, lsZ, lsS]
    refine take_at (i := 11) (d := 27) (v := ?_) rfl rfl (by kernel_rfl) (by kernel_rfl) (by kernel_rfl) (fun _ _ _ h => h) (by rfl) ?_ (by assumption) ?_
    rotate_left
    ·(intro w hSw; (try dsimp only at hSw); go_simp; (try with_reducible rfl))
    simp only [Act.put, lsA, lsZ, lsS]
    refine take_at (i := 12) (d := 28) (v := ?_) rfl rfl (by kernel_rfl) (by kernel_rfl) (by kernel_rfl) (fun _ _ _ h => h) (by rfl) ?_ (by assumption) ?_
    rotate_left
    ·(intro w hSw; (try dsimp only at hSw); go_simp; (try with_reducible rfl))
    simp only [Act.put, lsA, lsZ, lsS]
    refine take_at (i := 13) (d := 29) (v := ?_) rfl rfl (by kernel_rfl) (by kernel_rfl) (by kernel_rfl) (fun _ _ _ h => h) (by rfl) ?_ (by assumption) ?_
    rotate_left
    ·(intro w hSw; (try dsimp only at hSw); go_simp; (try with_reducible rfl))
    simp only [Act.put, lsA, lsZ, lsS]
    refine take_at (i := 14) (d := 30) (v := ?_) rfl rfl (by kernel_rfl) (by kernel_rfl) (by kernel_rfl) (fun _ _ _ h => h) (by rfl) ?_ (by assumption) ?_
    rotate_left
    ·(intro w hSw; (try dsimp only at hSw); go_simp; (try with_reducible rfl))
    simp only [Act.put, lsA, lsZ, lsS]
    refine take_at (i := 15) (d := 31) (v := ?_) rfl rfl (by kernel_rfl) (by kernel_rfl) (by kernel_rfl) (fun _ _ _ h => h) (by rfl) ?_ (by assumption) ?_
    rotate_left
    ·(intro w hSw; (try dsimp only at hSw); go_simp; (try with_reducible rfl))
    simp only [Act.put, lsA, lsZ, lsS]
    refine take_at (i := 16) (d := 32) (v := ?_) rfl rfl (by kernel_rfl) (by kernel_rfl) (by kernel_rfl) (fun _ _ _ h => h) (by rfl) ?_ (by assumption) ?_
    rotate_left
    ·(intro w hSw; (try dsimp only at hSw); go_simp; (try with_reducible rfl))
    simp only [Act.put, lsA, lsZ, lsS]
    refine take_at (i := 17) (d := 33) (v := ?_) rfl rfl (by kernel_rfl) (by kernel_rfl) (by kernel_rfl) (fun _ _ _ h => h) (by rfl) ?_ (by assumption) ?_
    rotate_left
    ·(intro w hSw; (try dsimp only at hSw); go_simp; (try with_reducible rfl))
    simp only [Act.put, lsA, lsZ, lsS]
    refine take_at (i := 18) (d := 34) (v := ?_) rfl rfl (by kernel_rfl) (by kernel_rfl) (by kernel_rfl) (fun _ _ _ h => h) (by rfl) ?_ (by assumption) ?_
    rotate_left
    ·(intro w hSw; (try dsimp only at hSw); go_simp; (try with_reducible rfl))
    simp only [Act.put, lsA, lsZ, lsS]
    refine take_at (i := 19) (d := 35) (v := ?_) rfl rfl (by kernel_rfl) (by kernel_rfl) (by kernel_rfl) (fun _ _ _ h => h) (by rfl) ?_ (by assumption) ?_
    rotate_left
    ·(intro w hSw; (try dsimp only at hSw); go_simp; (try with_reducible rfl))
    simp only [Act.put, lsA, lsZ, lsS]
    refine take_at (i := 20) (d := 36) (v := ?_) rfl rfl (by kernel_rfl) (by kernel_rfl) (by kernel_rfl) (fun _ _ _ h => h) (by rfl) ?_ (by assumption) ?_
    rotate_left
    ·(intro w hSw; (try dsimp only at hSw); go_simp; (try with_reducible rfl))
    simp only [Act.put, lsA, lsZ, lsS]
    refine take_at (i := 21) (d := 37) (v := ?_) rfl rfl (by kernel_rfl) (by kernel_rfl) (by kernel_rfl) (fun _ _ _ h => h) (by rfl) ?_ (by assumption) ?_
    rotate_left
    ·(intro w hSw; (try dsimp only at hSw); go_simp; (try with_reducible rfl))
    simp only [Act.put, lsA, lsZ, lsS]
    refine take_at (i := 22) (d := 38) (v := ?_) rfl rfl (by kernel_rfl) (by kernel_rfl) (by kernel_rfl) (fun _ _ _ h => h) (by rfl) ?_ (by assumption) ?_
    rotate_left
    ·(intro w hSw; (try dsimp only at hSw); go_simp; (try with_reducible rfl))
    simp only [Act.put, lsA, lsZ, lsS]
    refine take_at (i := 23) (d := 39) (v := ?_) rfl rfl (by kernel_rfl) (by kernel_rfl) (by kernel_rfl) (fun _ _ _ h => h) (by rfl) ?_ (by assumption) ?_
    rotate_left
    ·(intro w hSw; (try dsimp only at hSw); go_simp; (try with_reducible rfl))
    simp only [Act.put, lsA, lsZ, lsS]
    refine take_at (i := 24) (d := 40) (v := ?_) rfl rfl (by kernel_rfl) (by kernel_rfl) (by kernel_rfl) (fun _ _ _ h => h) (by rfl) ?_ (by assumption) ?_
    rotate_left
    ·(intro w hSw; (try dsimp only at hSw); go_simp; (try with_reducible rfl))
    simp only [Act.put, lsA, lsZ, lsS]
    refine take_at (i := 25) (d := 41) (v := ?_) rfl rfl (by kernel_rfl) (by kernel_rfl) (by kernel_rfl) (fun _ _ _ h => h) (by rfl) ?_ (by assumption) ?_
    rotate_left
    ·(intro w hSw; (try dsimp only at hSw); go_simp; (try with_reducible rfl))
    simp only [Act.put, lsA, lsZ, lsS]
    refine take_at (i := 26) (d := 42) (v := ?_) rfl rfl (by kernel_rfl) (by kernel_rfl) (by kernel_rfl) (fun _ _ _ h => h) (by rfl) ?_ (by assumption) ?_
    rotate_left
    ·(intro w hSw; (try dsimp only at hSw); go_simp; (try with_reducible rfl))
    simp only [Act.put, lsA, lsZ, lsS]
    refine take_at (i := 27) (d := 43) (v := ?_) rfl rfl (by kernel_rfl) (by kernel_rfl) (by kernel_rfl) (fun _ _ _ h => h) (by rfl) ?_ (by assumption) ?_
    rotate_left
    ·(intro w hSw; (try dsimp only at hSw); go_simp; (try with_reducible rfl))
    simp only [Act.put, lsA, lsZ, lsS]
    refine take_at (i := 28) (d := 44) (v := ?_) rfl rfl (by kernel_rfl) (by kernel_rfl) (by kernel_rfl) (fun _ _ _ h => h) (by rfl) ?_ (by assumption) ?_
    rotate_left
    ·(intro w hSw; (try dsimp only at hSw); go_simp; (try with_reducible rfl))
    simp only [Act.put, lsA, lsZ, lsS]
    refine skip_at (i := 29) (d := 45) rfl rfl (by kernel_rfl) (by kernel_rfl) (by kernel_rfl) (fun _ _ _ h => h) (by rfl) (by assumption) ?_
    simp only [Act.put, lsA, lsZ, lsS]
    refine skip_at (i := 30) (d := 46) rfl rfl (by kernel_rfl) (by kernel_rfl) (by kernel_rfl) (fun _ _ _ h => h) (by rfl) (by assumption) ?_
    simp only [Act.put, lsA, lsZ, lsS]
    refine skip_at (i := 31) (d := 47) rfl rfl (by kernel_rfl) (by kernel_rfl) (by kernel_rfl) (fun _ _ _ h => h) (by rfl) (by assumption) ?_
    simp only [Act.put, lsA, lsZ, lsS]
    refine skip_at (i := 32) (d := 48) rfl rfl (by kernel_rfl) (by kernel_rfl) (by kernel_rfl) (fun _ _ _ h => h) (by rfl) (by assumption) ?_
    simp only [Act.put, lsA, lsZ, lsS]
    refine skip_at (i := 33) (d := 49) rfl rfl (by kernel_rfl) (by kernel_rfl) (by kernel_rfl) (fun _ _ _ h => h) (by rfl) (by assumption) ?_
    simp only [Act.put, lsA, lsZ, lsS]
    refine skip_at (i := 34) (d := 50) rfl rfl (by kernel_rfl) (by kernel_rfl) (by kernel_rfl) (fun _ _ _ h => h) (by rfl) (by assumption) ?_
    simp only [Act.put, lsA, lsZ, lsS]
    refine skip_at (i := 35) (d := 51) rfl rfl (by kernel_rfl) (by kernel_rfl) (by kernel_rfl) (fun _ _ _ h => h) (by rfl) (by assumption) ?_
    simp only [Act.put, lsA, lsZ, lsS]
    refine take_at (i := 36) (d := 52) (v := ?_) rfl rfl (by kernel_rfl) (by kernel_rfl) (by kernel_rfl) (fun _ _ _ h => h) (by rfl) ?_ (by assumption) ?_
    rotate_left
    ·(intro w hSw; (try dsimp only at hSw); go_simp; (try with_reducible rfl))
    simp only [Act.put, lsA, lsZ, lsS]
    refine wpAnyH_done (by kernel_rfl) ?_ _
    go_wp2
    go_roundw
    case rel => exact ⟨k + 1, by omega, by go_num, Hn.out, hb.drew⟩
    case measure => simp [intOf]; omega
   have n1 := other a ca
   have n2 := other p cp
   have n3 := other c cc'
   by_cases hh : 0 ≤ holdsI a p c ⟨qx, qy⟩
   ·have Hn := Lib.hid (show freeGo a p c ps = false by rw [He.out, Hd.out]; exact free_hit ca cp cc' hh)
    have dh : decide (holdsI a p c ⟨qx, qy⟩ ≥ 0) = true := by simpa using hh
    clear same other next ca cp cc' hh
    generalize holdsI a p c ⟨qx, qy⟩ = hv at *
    go_wp2
    go_region_held3 (fun w' : World => (∀ a : Addr, (wr.cell? a).isSome = true → w'.cell? a = wr.cell? a) ∧ Later wr w') (first | assumption | exact keep_call (by assumption) (by assumption) | exact keep_call (by assumption) ((Later.refl _).alloc _) | exact keep_init _ | exact ⟨Later.keeps (by assumption), by assumption⟩ | exact ⟨Later.keeps (by repeat' (with_reducible first | exact .refl _ | assumption | refine .drew ?_ | refine .drewN ?_ _ | refine .alloc ?_ _ | refine .put ?_ (by omega) _ | refine .trans ?_ (by assumption))), (by repeat' (with_reducible first | exact .refl _ | assumption | refine .drew ?_ | refine .drewN ?_ _ | refine .alloc ?_ _ | refine .put ?_ (by omega) _ | refine .trans ?_ (by assumption)))⟩) ((first | (go_at_call 231; (with_reducible refine (HP.out _ (hb.trans (by first | exact (Later.refl _).drew | exact (by assumption : _ ∧ Later wr _).2))).mono ?_); rintro e w2 ⟨rfl, hb2⟩)))
    all_goals
     rename_i hHw
     go_wp2
     go_ret
     exact ⟨ret_bool Hn.out.symm, hb1.trans (hb.trans hHw.2)⟩
   ·have Hn := Lib.hid (next (free_miss (fun h => hh h.2)))
    have dh : decide (holdsI a p c ⟨qx, qy⟩ ≥ 0) = false := by simpa using hh
    clear same other next ca cp cc' hh
    generalize holdsI a p c ⟨qx, qy⟩ = hv at *
    go_wp2
    go_region_held3 (fun w' : World => (∀ a : Addr, (wr.cell? a).isSome = true → w'.cell? a = wr.cell? a) ∧ Later wr w') (first | assumption | exact keep_call (by assumption) (by assumption) | exact keep_call (by assumption) ((Later.refl _).alloc _) | exact keep_init _ | exact ⟨Later.keeps (by assumption), by assumption⟩ | exact ⟨Later.keeps (by repeat' (with_reducible first | exact .refl _ | assumption | refine .drew ?_ | refine .drewN ?_ _ | refine .alloc ?_ _ | refine .put ?_ (by omega) _ | refine .trans ?_ (by assumption))), (by repeat' (with_reducible first | exact .refl _ | assumption | refine .drew ?_ | refine .drewN ?_ _ | refine .alloc ?_ _ | refine .put ?_ (by omega) _ | refine .trans ?_ (by assumption)))⟩) ((first | (go_at_call 231; (with_reducible refine (HP.out _ (hb.trans (by first | exact (Later.refl _).drew | exact (by assumption : _ ∧ Later wr _).2))).mono ?_); rintro e w2 ⟨rfl, hb2⟩)))
    all_goals
     rename_i hHw
     go_wp2
     go_roundw
     case rel => exact ⟨k + 1, by omega, by go_num, Hn.out, hb.trans hHw.2⟩
     case measure => simp [intOf]; omega
  ·go_wp2
   go_ret
   exact ⟨ret_bool (by rw [He.out, List.drop_eq_nil_of_le (by omega)]; rfl), hb1.trans hb⟩
end Go.Proofs.YtdhakoecjmaebaaGreat
