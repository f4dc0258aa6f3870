/-
 The reference's Hits at the rectangles of flaws: plain facts.
-/
import Derived.Test.YtdhakoecjmaebaaGreatZRefH
namespace Go.Proofs.YtdhakoecjmaebaaGreat
open Go.RowKit
set_option linter.unusedSimpArgs false
set_option linter.unusedVariables false
def rhitsR (ps : List Pt) (x y ww h : Int) : Bool × Int :=
 if checkI ps ≠ 0 then (false, checkI ps) else if min (x + ww) 1048577 ≤ x ∨ min (y + h) 1048577 ≤ y then (false, 0)
 else (someB [rectPts x y (min (x + ww) 1048577) (min (y + h) 1048577)] (splitR ps).1, 0)
theorem any_some (r : List Pt) : ∀ ts : List (List Pt), anyHit r ts = true ↔ ∃ t ∈ ts, contactI t r = 1 := by
 intro ts
 induction ts with
 | nil => simp [anyHit]
 | cons t l ih =>
  rw [anyHit]
  split
  ·rename_i h; simp [h]
  ·rename_i h; rw [ih]; simp [h]
theorem out_x {p : Pt} (h : outP p = false) : p.x ≤ 1048576 := by
 unfold outP outsideB at h
 simp only [Bool.or_eq_false_iff, decide_eq_false_iff_not] at h
 omega
theorem rhits_eq {ps : List Pt} {x y ww h : Int} (x1 : -1048576 ≤ x) (x2 : x ≤ 2097152) (y1 : 0 ≤ y) (y2 : y + h ≤ 1048576) (w1 : 1 ≤ ww) (w2 : ww ≤ 1048576) (h1 : 1 ≤ h) : rhitsR ps x y ww h = hitsR ps x y ww h := by
 unfold rhitsR hitsR
 rw [splitR_err]
 by_cases hok : checkI ps = 0
 ·simp only [hok, ne_eq, not_true_eq_false, if_false]
  rw [if_neg (show ¬ (ww < 1 ∨ h < 1) by omega)]
  have l1 : spanLo x = x := by unfold spanLo; omega
  have l2 : spanLo y = y := by unfold spanLo; omega
  have l3 : spanHi x ww = min (x + ww) 1048576 := by unfold spanHi; rw [if_pos (by omega)]
  have l4 : spanHi y h = y + h := by unfold spanHi; rw [if_pos (by omega)]; omega
  have l5 : min (y + h) 1048577 = y + h := by omega
  rw [l1, l2, l3, l4, l5]
  have tri := splitR_tri ps
  have hin := splitR_in ps
  generalize (splitR ps).1 = ts at *
  by_cases c1 : x < min (x + ww) 1048576
  ·rw [if_neg (show ¬ (min (x + ww) 1048577 ≤ x ∨ y + h ≤ y) by omega), if_neg (show ¬ (¬ x < min (x + ww) 1048576 ∨ ¬ y < y + h) by omega)]
   rw [Prod.mk.injEq]
   refine ⟨?_, rfl⟩
   rw [Bool.eq_iff_iff, some_iff, any_some]
   have key : ∀ t ∈ ts, (contactI t (rectPts x y (min (x + ww) 1048577) (y + h)) = 1 ↔ contactI t (rectPts x y (min (x + ww) 1048576) (y + h)) = 1) := by
    intro t ht
    obtain ⟨a, b, c, rfl, hc⟩ := tri t ht
    have ia := out_x (hin _ ht a (by simp))
    have ib := out_x (hin _ ht b (by simp))
    have ic := out_x (hin _ ht c (by simp))
    rcases Int.lt_or_le (x + ww) 1048577 with q | q
    ·rw [show min (x + ww) 1048577 = min (x + ww) 1048576 by omega]
    ·rw [show min (x + ww) 1048577 = 1048576 + 1 by omega, show min (x + ww) 1048576 = 1048576 by omega]
     exact (clip_contact hc ia ib ic (by omega) (by omega)).symm
   constructor
   ·rintro ⟨t, ht, u, hu, hc⟩
    rw [List.mem_singleton.1 hu] at hc
    exact ⟨t, ht, (key t ht).1 hc⟩
   ·rintro ⟨t, ht, hc⟩
    exact ⟨t, ht, _, List.mem_singleton.2 rfl, (key t ht).2 hc⟩
  ·rw [if_pos (show ¬ x < min (x + ww) 1048576 ∨ ¬ y < y + h by omega)]
   by_cases c2 : min (x + ww) 1048577 ≤ x ∨ y + h ≤ y
   ·rw [if_pos c2]
   ·rw [if_neg c2, Prod.mk.injEq]
    refine ⟨?_, rfl⟩
    rw [← Bool.not_eq_true, some_iff]
    rintro ⟨t, ht, u, hu, hc⟩
    rw [List.mem_singleton.1 hu] at hc
    obtain ⟨a, b, c, rfl, _⟩ := tri t ht
    exact far_contact (M := 1048576) (out_x (hin _ ht a (by simp))) (out_x (hin _ ht b (by simp))) (out_x (hin _ ht c (by simp))) (by omega) (by omega) (by omega) hc
 ·simp [hok]
end Go.Proofs.YtdhakoecjmaebaaGreat
namespace Go.Proofs.YtdhakoecjmaebaaGreat
open Go.RowKit
set_option linter.unusedSimpArgs false
set_option linter.unusedVariables false
attribute [local go_sem] ite_min ite_max
set_option maxHeartbeats 2000000 in
theorem ref15_end (at_ size : Int) (w : World) (h1 : -1048576 ≤ at_) (h2 : at_ ≤ 4194304) (h3 : 1 ≤ size) (h4 : size ≤ 4194304) :
  Calls Tryz.prog 184 #[.int .i64 at_, .int .i64 size] w (Ret (.int .i64 (min (at_ + size) 1048577)) w) := by
 have w1 : IntKind.i64.wrap (1048577 - at_) = 1048577 - at_ := IntWalk.i64_in _ (by omega)
 have w2 : IntKind.i64.wrap (at_ + size) = at_ + size := IntWalk.i64_in _ (by omega)
 go_enter Tryz.func184, Tryz.ntmps184
 go_wp2
 all_goals
  go_ret
  exact ⟨ret_int (by omega), (by repeat' (with_reducible first | exact .refl _ | assumption | refine .drew ?_ | refine .drewN ?_ _ | refine .alloc ?_ _ | refine .put ?_ (by omega) _ | refine .trans ?_ (by assumption)))⟩
theorem polys_rect {W : World} {G : Nat} {x y z v : Int} (h : Blk W G 29 #[.int .i64 x, .int .i64 y, .int .i64 z, .int .i64 y, .int .i64 z, .int .i64 v, .int .i64 x, .int .i64 v]) :
  Polys (W.alloc (.cells #[.slice (some ⟨G, 0, none⟩) 4 4] 28)) (some ⟨W.heap.size, 0, none⟩) [rectPts x y z v] := fun _ => by
 refine ⟨W.heap.size, 0, rfl, fun i ps hi => ?_⟩
 rcases i with _ | i
 ·cases hi
  refine ⟨.slice (some ⟨G, 0, none⟩) 4 4, (Blk.new W 28 #[.slice (some ⟨G, 0, none⟩) 4 4]).cell 0, some ⟨G, 0, none⟩, 4, rfl, by simp [rectPts], by unfold maxLen; omega, fun _ => ⟨G, 0, rfl, ?_⟩⟩
  have h' := h.later ((Later.refl W).alloc (.cells #[.slice (some ⟨G, 0, none⟩) 4 4] 28))
  intro k p hp
  unfold rectPts at hp
  rcases k with _ | _ | _ | _ | k
  ·cases hp; exact ⟨h'.cell 0, h'.cell 1⟩
  ·cases hp; exact ⟨h'.cell 2, h'.cell 3⟩
  ·cases hp; exact ⟨h'.cell 4, h'.cell 5⟩
  ·cases hp; exact ⟨h'.cell 6, h'.cell 7⟩
  ·simp at hp
 ·simp at hi
set_option maxHeartbeats 4000000 in
theorem ref15_Hits (A : Option Addr) (c : Nat) (ps : List Pt) (x y ww hh : Int) (w : World) (hn : ps.length ≤ 1099511627776) (hcap : ps.length ≤ c) (hp : Pts w A ps)
  (x1 : -1048576 ≤ x) (x2 : x ≤ 2097152) (y1 : -1048576 ≤ y) (y2 : y ≤ 2097152) (w1 : 1 ≤ ww) (w2 : ww ≤ 1048576) (h1 : 1 ≤ hh) (h2 : hh ≤ 1048576) :
  Calls Tryz.prog 134 #[.slice A ps.length c, .agg #[.int .i64 x, .int .i64 y, .int .i64 ww, .int .i64 hh]] w (Ret (.tuple #[.bool (rhitsR ps x y ww hh).1, .int .i64 (rhitsR ps x y ww hh).2]) w) := by
 have HC := Lib.hid (fun W (hW : Later w W) => ref11_Check A c ps W hn hcap (hp.later hW))
 rw [rcheck_eq] at HC
 unfold rhitsR
 by_cases hok : checkI ps = 0
 ·rw [if_neg (by simpa using hok)]
  rw [hok] at HC
  have HX := Lib.hid (fun W => ref15_end x ww W (by omega) (by omega) w1 (by omega))
  have HY := Lib.hid (fun W => ref15_end y hh W (by omega) (by omega) h1 (by omega))
  have HA := Lib.hid (fun W (hW : Later w W) => ref13_Split A c ps W hn hcap (hp.later hW))
  have sa := splitR_sml ps
  have la := splitR_cnt ps
  have sR : ∀ z v : Int, Sm z → Sm v → SmLs [rectPts x y z v] := by
   intro z v hz hv t ht
   rw [List.mem_singleton.1 ht]
   refine ⟨gp_all (Q := SmP) (by unfold SmP Sm; decide) ?_, by simp [rectPts]⟩
   intro p hp
   simp only [rectPts, List.mem_cons, List.not_mem_nil, or_false] at hp
   unfold SmP Sm at *
   rcases hp with rfl | rfl | rfl | rfl <;> simp only [] <;> omega
  generalize splitR ps = ra at *
  obtain ⟨ta, ea⟩ := ra
  unfold SplitPost2 at HA
  simp only [] at HA sa la
  have dw : decide (ww < 1) = false := by rw [decide_eq_false_iff_not]; omega
  have dh : decide (hh < 1) = false := by rw [decide_eq_false_iff_not]; omega
  have nw1 : ¬ ww < 1 := by omega
  have nw2 : ¬ hh < 1 := by omega
  have nw3 : ¬ ww ≤ 0 := by omega
  have nw4 : ¬ hh ≤ 0 := by omega
  have mx : max x (-1048577) = x := by omega
  have my : max y (-1048577) = y := by omega
  have hz1 : min (x + ww) 1048577 ≤ 1048577 ∧ -1048577 ≤ min (x + ww) 1048577 := by omega
  have hz2 : min (y + hh) 1048577 ≤ 1048577 ∧ -1048577 ≤ min (y + hh) 1048577 := by omega
  have sR' := sR (min (x + ww) 1048577) (min (y + hh) 1048577) (by unfold Sm; omega) (by unfold Sm; omega)
  generalize min (x + ww) 1048577 = z at *
  generalize min (y + hh) 1048577 = v at *
  have HS := Lib.hid (fun (X Y : Option Addr) (cx cy : Nat) W (hx : Polys W X ta) (hy : Polys W Y [rectPts x y z v]) => ref15_some X Y cx cy ta [rectPts x y z v] W (by omega) (by simp) hx hy sa sR')
  clear hok sR
  by_cases hzx : z ≤ x
  ·rw [if_pos (.inl hzx)]
   have dz : decide (x ≥ z) = true := by rw [decide_eq_true_iff]; omega
   simp only []
   go_enter Tryz.func134, Tryz.ntmps134
   go_wp2_with (first
    | (go_at_call 135; (with_reducible refine (HC.out _ (by repeat' (with_reducible first | exact .refl _ | assumption | refine .drew ?_ | refine .drewN ?_ _ | refine .alloc ?_ _ | refine .put ?_ (by omega) _ | refine .trans ?_ (by assumption)))).mono ?_); rintro e w3 ⟨rfl, hb3⟩; have B0 : Blk w3 w.heap.size 48 #[.int .i64 x, .int .i64 y, .int .i64 ww, .int .i64 hh] := Blk.later (by repeat' (with_reducible first | assumption | (refine Blk.newAt ?_; simp; done) | refine Blk.alloc ?_ _ | refine Blk.drew ?_ | refine Blk.drewN ?_ _ | refine Blk.later ?_ (by assumption))) hb3; have d0 : w3.cell? ⟨w.heap.size, 0, none⟩ = some (.int .i64 x) := B0.cell 0; have d1 : w3.cell? ⟨w.heap.size, 1, none⟩ = some (.int .i64 y) := B0.cell 1; have d2 : w3.cell? ⟨w.heap.size, 2, none⟩ = some (.int .i64 ww) := B0.cell 2; have d3 : w3.cell? ⟨w.heap.size, 3, none⟩ = some (.int .i64 hh) := B0.cell 3))
   go_region_held3 (fun w' : World => (∀ a : Addr, (w3.cell? a).isSome = true → w'.cell? a = w3.cell? a) ∧ Later w3 w') (first | assumption | exact keep_call (by assumption) (by assumption) | exact keep_call (by assumption) ((Later.refl _).alloc _) | exact keep_init _ | exact ⟨Later.keeps (by assumption), by assumption⟩ | exact ⟨Later.keeps (by repeat' (with_reducible first | exact .refl _ | assumption | refine .drew ?_ | refine .drewN ?_ _ | refine .alloc ?_ _ | refine .put ?_ (by omega) _ | refine .trans ?_ (by assumption))), (by repeat' (with_reducible first | exact .refl _ | assumption | refine .drew ?_ | refine .drewN ?_ _ | refine .alloc ?_ _ | refine .put ?_ (by omega) _ | refine .trans ?_ (by assumption)))⟩) ((first | (go_at_call 184; (with_reducible refine (HX.out _).mono ?_); rintro e w4 ⟨rfl, hb4⟩) | (go_at_call 184; (with_reducible refine (HY.out _).mono ?_); rintro e w5 ⟨rfl, hb5⟩)))
   all_goals
    rename_i hHw
    go_wp2
    go_ret2
    exact ⟨rfl, ((by repeat' (with_reducible first | exact .refl _ | assumption | refine .drew ?_ | refine .drewN ?_ _ | refine .alloc ?_ _ | refine .put ?_ (by omega) _ | refine .trans ?_ (by assumption))) : Later w w3).trans hHw.2⟩
  by_cases hvy : v ≤ y
  ·rw [if_pos (.inr hvy)]
   have dz : decide (x ≥ z) = false := by rw [decide_eq_false_iff_not]; omega
   have dv : decide (y ≥ v) = true := by rw [decide_eq_true_iff]; omega
   simp only []
   go_enter Tryz.func134, Tryz.ntmps134
   go_wp2_with (first
    | (go_at_call 135; (with_reducible refine (HC.out _ (by repeat' (with_reducible first | exact .refl _ | assumption | refine .drew ?_ | refine .drewN ?_ _ | refine .alloc ?_ _ | refine .put ?_ (by omega) _ | refine .trans ?_ (by assumption)))).mono ?_); rintro e w3 ⟨rfl, hb3⟩; have B0 : Blk w3 w.heap.size 48 #[.int .i64 x, .int .i64 y, .int .i64 ww, .int .i64 hh] := Blk.later (by repeat' (with_reducible first | assumption | (refine Blk.newAt ?_; simp; done) | refine Blk.alloc ?_ _ | refine Blk.drew ?_ | refine Blk.drewN ?_ _ | refine Blk.later ?_ (by assumption))) hb3; have d0 : w3.cell? ⟨w.heap.size, 0, none⟩ = some (.int .i64 x) := B0.cell 0; have d1 : w3.cell? ⟨w.heap.size, 1, none⟩ = some (.int .i64 y) := B0.cell 1; have d2 : w3.cell? ⟨w.heap.size, 2, none⟩ = some (.int .i64 ww) := B0.cell 2; have d3 : w3.cell? ⟨w.heap.size, 3, none⟩ = some (.int .i64 hh) := B0.cell 3))
   go_region_held3 (fun w' : World => (∀ a : Addr, (w3.cell? a).isSome = true → w'.cell? a = w3.cell? a) ∧ Later w3 w') (first | assumption | exact keep_call (by assumption) (by assumption) | exact keep_call (by assumption) ((Later.refl _).alloc _) | exact keep_init _ | exact ⟨Later.keeps (by assumption), by assumption⟩ | exact ⟨Later.keeps (by repeat' (with_reducible first | exact .refl _ | assumption | refine .drew ?_ | refine .drewN ?_ _ | refine .alloc ?_ _ | refine .put ?_ (by omega) _ | refine .trans ?_ (by assumption))), (by repeat' (with_reducible first | exact .refl _ | assumption | refine .drew ?_ | refine .drewN ?_ _ | refine .alloc ?_ _ | refine .put ?_ (by omega) _ | refine .trans ?_ (by assumption)))⟩) ((first | (go_at_call 184; (with_reducible refine (HX.out _).mono ?_); rintro e w4 ⟨rfl, hb4⟩) | (go_at_call 184; (with_reducible refine (HY.out _).mono ?_); rintro e w5 ⟨rfl, hb5⟩)))
   all_goals
    rename_i hHw
    go_wp2
    go_ret2
    exact ⟨rfl, ((by repeat' (with_reducible first | exact .refl _ | assumption | refine .drew ?_ | refine .drewN ?_ _ | refine .alloc ?_ _ | refine .put ?_ (by omega) _ | refine .trans ?_ (by assumption))) : Later w w3).trans hHw.2⟩
  ·rw [if_neg (by omega)]
   have dz : decide (x ≥ z) = false := by rw [decide_eq_false_iff_not]; omega
   have dv : decide (y ≥ v) = false := by rw [decide_eq_false_iff_not]; omega
   simp only []
   go_enter Tryz.func134, Tryz.ntmps134
   go_wp2_with (first
    | (go_at_call 135; (with_reducible refine (HC.out _ (by repeat' (with_reducible first | exact .refl _ | assumption | refine .drew ?_ | refine .drewN ?_ _ | refine .alloc ?_ _ | refine .put ?_ (by omega) _ | refine .trans ?_ (by assumption)))).mono ?_); rintro e w3 ⟨rfl, hb3⟩; have B0 : Blk w3 w.heap.size 48 #[.int .i64 x, .int .i64 y, .int .i64 ww, .int .i64 hh] := Blk.later (by repeat' (with_reducible first | assumption | (refine Blk.newAt ?_; simp; done) | refine Blk.alloc ?_ _ | refine Blk.drew ?_ | refine Blk.drewN ?_ _ | refine Blk.later ?_ (by assumption))) hb3; have d0 : w3.cell? ⟨w.heap.size, 0, none⟩ = some (.int .i64 x) := B0.cell 0; have d1 : w3.cell? ⟨w.heap.size, 1, none⟩ = some (.int .i64 y) := B0.cell 1; have d2 : w3.cell? ⟨w.heap.size, 2, none⟩ = some (.int .i64 ww) := B0.cell 2; have d3 : w3.cell? ⟨w.heap.size, 3, none⟩ = some (.int .i64 hh) := B0.cell 3))
   go_region_held3 (fun w' : World => (∀ a : Addr, (w3.cell? a).isSome = true → w'.cell? a = w3.cell? a) ∧ Later w3 w') (first | assumption | exact keep_call (by assumption) (by assumption) | exact keep_call (by assumption) ((Later.refl _).alloc _) | exact keep_init _ | exact ⟨Later.keeps (by assumption), by assumption⟩ | exact ⟨Later.keeps (by repeat' (with_reducible first | exact .refl _ | assumption | refine .drew ?_ | refine .drewN ?_ _ | refine .alloc ?_ _ | refine .put ?_ (by omega) _ | refine .trans ?_ (by assumption))), (by repeat' (with_reducible first | exact .refl _ | assumption | refine .drew ?_ | refine .drewN ?_ _ | refine .alloc ?_ _ | refine .put ?_ (by omega) _ | refine .trans ?_ (by assumption)))⟩) ((first | (go_at_call 184; (with_reducible refine (HX.out _).mono ?_); rintro e w4 ⟨rfl, hb4⟩) | (go_at_call 184; (with_reducible refine (HY.out _).mono ?_); rintro e w5 ⟨rfl, hb5⟩)))
   all_goals
    rename_i hHw
    go_wp2_with (first
     | (go_at_call 130; (with_reducible refine (HA.out _ (by repeat' (with_reducible first | exact .refl _ | assumption | refine .drew ?_ | refine .drewN ?_ _ | refine .alloc ?_ _ | refine .put ?_ (by omega) _ | refine .trans ?_ (by assumption)))).mono ?_); rintro e w6 ⟨X, cx, rfl, p1, p2, hb6⟩; have hBx := Blk.later (Blk.new _ _ _) hb6)
     | (go_at_call 131; refine (HS.out X _ cx 1 _ (p2.later (by repeat' (with_reducible first | exact .refl _ | assumption | refine .drew ?_ | refine .drewN ?_ _ | refine .alloc ?_ _ | refine .put ?_ (by omega) _ | refine .trans ?_ (by assumption)))) (polys_rect hBx)).mono ?_; rintro e w7 ⟨rfl, hb7⟩))
    go_ret2
    exact ⟨rfl, ((by repeat' (with_reducible first | exact .refl _ | assumption | refine .drew ?_ | refine .drewN ?_ _ | refine .alloc ?_ _ | refine .put ?_ (by omega) _ | refine .trans ?_ (by assumption))) : Later w w3).trans (hHw.2.trans (Later.trans ((Later.refl _).alloc _) (hb6.trans (Later.trans ((Later.refl _).alloc _) hb7))))⟩
 ·rw [if_pos hok]
  generalize checkI ps = e0 at *
  have h0 : (e0 != 0) = true := by simpa using hok
  simp only []
  go_enter Tryz.func134, Tryz.ntmps134
  go_wp2_with (first
   | (go_at_call 135; (with_reducible refine (HC.out _ (by repeat' (with_reducible first | exact .refl _ | assumption | refine .drew ?_ | refine .drewN ?_ _ | refine .alloc ?_ _ | refine .put ?_ (by omega) _ | refine .trans ?_ (by assumption)))).mono ?_); rintro e w3 ⟨rfl, hb3⟩))
  go_ret2
  exact ⟨rfl, (by repeat' (with_reducible first | exact .refl _ | assumption | refine .drew ?_ | refine .drewN ?_ _ | refine .alloc ?_ _ | refine .put ?_ (by omega) _ | refine .trans ?_ (by assumption)))⟩
end Go.Proofs.YtdhakoecjmaebaaGreat
