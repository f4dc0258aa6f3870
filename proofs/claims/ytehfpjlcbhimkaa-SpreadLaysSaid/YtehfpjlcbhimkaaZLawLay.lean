/-
  SpreadLays, walked.
-/
import Derived.Test.YtehfpjlcbhimkaaZRefSq
import Derived.Test.YtehfpjlcbhimkaaZSame3
import Derived.Test.YtehfpjlcbhimkaaZSameP
import Derived.Test.YtehfpjlcbhimkaaZLawOnc
namespace Go.Proofs.Ytehfpjlcbhimkaa
open Go.RowKit
set_option linter.unusedSimpArgs false
set_option linter.unusedVariables false

theorem law38_refspread (c : C8) (w : World) (hc : C8Ok w c) (hf : few8 c = true) :
    Calls Try.prog 16 #[.agg #[.int .i64 c.len, .int .i64 c.wd, .int .i64 c.rx, .int .i64 c.ry, .slice c.s1 c.sz.length c.c1, .slice c.s2 c.pl.length c.c2], .slice c.qa c.ps.length c.qc, .slice c.ra c.rs.length c.rc, .slice c.la c.lots.length c.lc, .slice c.aa c.plies.length c.ac] w
      (RSpreadPost c.len c.wd c.rx c.ry c.s1 c.sz.length c.c1 c.s2 c.pl.length c.c2 (spR c) w) := by
  obtain ⟨a1, a2, a3, a4, a5, a6, a7⟩ := few8_all hf
  exact ref38_Spread c.qa c.ra c.la c.s1 c.s2 c.aa c.qc c.rc c.lc c.sz.length c.c1 c.pl.length c.c2 c.ac c.len c.wd c.rx c.ry c.ps c.rs c.lots c.plies w hc.ps (fun p hp => by have := a7 p hp; omega) hc.rs (by omega) hc.lots (by omega) hc.plies (by omega)
/-- The rests of a lay are few. -/
theorem rests_few {c : C8} (h : (spR c).2.2 = 0) : (spR c).2.1.length ≤ 20000 := by
  obtain ⟨hLk, hLg, hrq⟩ := laid_ok h
  have e : ((spR c).1.map fun y => (⟨y.1, none, 0, y.2⟩ : Py)).map Py.pl = (spR c).1 := by
    rw [List.map_map]
    exact List.map_id' _
  have := (once_of (ys := (spR c).1.map fun y => (⟨y.1, none, 0, y.2⟩ : Py)) (by rw [e]; exact hLk) (by rw [e]; exact hLg)).xsl
  rw [e, ← hrq] at this
  omega

set_option maxHeartbeats 8000000 in
set_option maxRecDepth 100000 in
theorem law38_SpreadLays (hex : ∀ W, Calls Try.prog 14 #[] W (Ret (.bool true) W)) (c : C8) (w : World) (hc : C8Ok w c) :
    Calls Try.prog 3 #[c.agg] w (Ret (.bool true) w) := by
  have HX := Lib.hid hex
  have HF := Lib.hid (fun W (hW : Later w W) => law38_few c W (hc.later hW))
  rcases hfew : few8 c with _ | _
  · rw [hfew] at HF
    unfold C8.agg at HF ⊢
    clear hfew
    obtain ⟨len, wd, rx, ry, s1, c1, sz, s2, c2, pl, qa, qc, ps, ra, rc, rs, la, lc, lots, aa, ac, plies⟩ := c
    simp only [] at HF ⊢
    go_enter Try.func3, Try.ntmps3
    go_wp2_with (first | (go_at_call 13; (with_reducible refine (HF.out _ (by repeat' (with_reducible first | exact Later.refl _ | assumption | refine Later.drew ?_ | refine Later.drewN ?_ _ | refine Later.alloc ?_ _ | refine Later.put ?_ (by omega) _ | refine Later.trans ?_ (by assumption)))).mono ?_); rintro e w2 ⟨rfl, hb2⟩) | (go_at_call 14; (with_reducible refine (HX.out _).mono ?_); rintro e w10 ⟨rfl, hb10⟩))
    go_ret
    exact ⟨rfl, (by repeat' (with_reducible first | exact Later.refl _ | assumption | refine Later.drew ?_ | refine Later.drewN ?_ _ | refine Later.alloc ?_ _ | refine Later.put ?_ (by omega) _ | refine Later.trans ?_ (by assumption)))⟩
  rw [hfew] at HF
  obtain ⟨a1, a2, a3, a4, a5, a6, a7⟩ := few8_all hfew
  have HS := Lib.hid (fun W (hW : Later w W) => law38_spread c W (hc.later hW) hfew)
  have HR := Lib.hid (fun W (hW : Later w W) => law38_refspread c W (hc.later hW) hfew)
  have hsz := hc.sz
  have hpl := hc.pl
  by_cases hz : (spR c).2.2 = 0
  · have hx := rests_few hz
    have hy40 := (laid_ok hz).1.num
    unfold SpreadPost at HS
    unfold RSpreadPost at HR
    unfold C8.agg at HF ⊢
    clear hfew hc a7
    generalize spR c = R at *
    obtain ⟨yl, xs, er⟩ := R
    obtain ⟨len, wd, rx, ry, s1, c1, sz, s2, c2, pl, qa, qc, ps, ra, rc, rs, la, lc, lots, aa, ac, plies⟩ := c
    simp only [] at HF HS HR hsz hpl a1 a2 a3 a4 a5 a6 hx hz hy40 ⊢
    subst hz
    go_enter Try.func3, Try.ntmps3
    go_upto_region 3 with (first | (go_at_call 13; (with_reducible refine (HF.out _ (by repeat' (with_reducible first | exact Later.refl _ | assumption | refine Later.drew ?_ | refine Later.drewN ?_ _ | refine Later.alloc ?_ _ | refine Later.put ?_ (by omega) _ | refine Later.trans ?_ (by assumption)))).mono ?_); rintro e w2 ⟨rfl, hb2⟩; have D2 : Blk w2 w.heap.size 31 #[.int .i64 len, .int .i64 wd, .int .i64 rx, .int .i64 ry, .slice s1 sz.length c1, .slice s2 pl.length c2, .slice qa ps.length qc, .slice ra rs.length rc, .slice la lots.length lc, .slice aa plies.length ac] := Blk.later (by repeat' (with_reducible first | assumption | (refine Blk.newAt ?_; simp; done) | refine Blk.alloc ?_ _ | refine Blk.drew ?_ | refine Blk.drewN ?_ _ | refine Blk.later ?_ (by assumption))) hb2))
    have hl2 : Later w w2 := (by repeat' (with_reducible first | exact Later.refl _ | assumption | refine Later.drew ?_ | refine Later.drewN ?_ _ | refine Later.alloc ?_ _ | refine Later.put ?_ (by omega) _ | refine Later.trans ?_ (by assumption)))
    clear hb2 HF
    have k0 : w2.cell? ⟨w.heap.size, 0, none⟩ = some (.int .i64 len) := D2.cell 0
    have k1 : w2.cell? ⟨w.heap.size, 1, none⟩ = some (.int .i64 wd) := D2.cell 1
    have k2 : w2.cell? ⟨w.heap.size, 2, none⟩ = some (.int .i64 rx) := D2.cell 2
    have k3 : w2.cell? ⟨w.heap.size, 3, none⟩ = some (.int .i64 ry) := D2.cell 3
    have k4 : w2.cell? ⟨w.heap.size, 4, none⟩ = some (.slice s1 sz.length c1) := D2.cell 4
    have k5 : w2.cell? ⟨w.heap.size, 5, none⟩ = some (.slice s2 pl.length c2) := D2.cell 5
    have k6 : w2.cell? ⟨w.heap.size, 6, none⟩ = some (.slice qa ps.length qc) := D2.cell 6
    have k7 : w2.cell? ⟨w.heap.size, 7, none⟩ = some (.slice ra rs.length rc) := D2.cell 7
    have k8 : w2.cell? ⟨w.heap.size, 8, none⟩ = some (.slice la lots.length lc) := D2.cell 8
    have k9 : w2.cell? ⟨w.heap.size, 9, none⟩ = some (.slice aa plies.length ac) := D2.cell 9
    have zk := D2.lt
    go_upto_region 4 with (first | (go_at_call 15; (with_reducible refine (HS.out _ hl2).mono ?_); rintro e w3 (⟨_, S1, d1, S2, d2, P, pc, X, xc, ys, rfl, hys, t1, t2, t3, t4, t5, t6, t7, t8, hcl, hb3⟩ | ⟨hz', _⟩); rotate_left; exact absurd rfl hz'))
    obtain ⟨x1, x2, x3, x4⟩ := hcl _ (fun b _ _ => rfl)
    clear hcl t1 t3 t5 t7
    refine name_world (fun W4 hW4 => ?_)
    have hl34 : Later w3 W4 := by rw [hW4]; exact (by repeat' (with_reducible first | exact Later.refl _ | assumption | refine Later.drew ?_ | refine Later.drewN ?_ _ | refine Later.alloc ?_ _ | refine Later.put ?_ (by omega) _ | refine Later.trans ?_ (by assumption)))
    have hl4 : Later w W4 := hl2.trans (hb3.trans hl34)
    have DL : Blk W4 w3.heap.size 36 #[.int .i64 len, .int .i64 wd, .int .i64 rx, .int .i64 ry, .slice S1 sz.length d1, .slice S2 pl.length d2, .slice P ys.length pc] := by rw [hW4]; exact (by repeat' (with_reducible first | assumption | (refine Blk.newAt ?_; simp; done) | refine Blk.alloc ?_ _ | refine Blk.drew ?_ | refine Blk.drewN ?_ _ | refine Blk.later ?_ (by assumption)))
    have D4 := D2.later (hb3.trans hl34)
    have X1 := Lib.hid (x1.later hl34)
    have X2 := Lib.hid (x2.later hl34)
    have X3 := Lib.hid (x3.later hl34)
    have X4 := Lib.hid (x4.later hl34)
    clear hW4 x1 x2 x3 x4 k0 k1 k2 k3 k4 k5 k6 k7 k8 k9 zk
    have k0 : W4.cell? ⟨w.heap.size, 0, none⟩ = some (.int .i64 len) := D4.cell 0
    have k1 : W4.cell? ⟨w.heap.size, 1, none⟩ = some (.int .i64 wd) := D4.cell 1
    have k2 : W4.cell? ⟨w.heap.size, 2, none⟩ = some (.int .i64 rx) := D4.cell 2
    have k3 : W4.cell? ⟨w.heap.size, 3, none⟩ = some (.int .i64 ry) := D4.cell 3
    have k4 : W4.cell? ⟨w.heap.size, 4, none⟩ = some (.slice s1 sz.length c1) := D4.cell 4
    have k5 : W4.cell? ⟨w.heap.size, 5, none⟩ = some (.slice s2 pl.length c2) := D4.cell 5
    have k6 : W4.cell? ⟨w.heap.size, 6, none⟩ = some (.slice qa ps.length qc) := D4.cell 6
    have k7 : W4.cell? ⟨w.heap.size, 7, none⟩ = some (.slice ra rs.length rc) := D4.cell 7
    have k8 : W4.cell? ⟨w.heap.size, 8, none⟩ = some (.slice la lots.length lc) := D4.cell 8
    have k9 : W4.cell? ⟨w.heap.size, 9, none⟩ = some (.slice aa plies.length ac) := D4.cell 9
    have zk := D4.lt
    go_upto_region 5 with (first | (go_at_call 16; (with_reducible refine (HR.out _ hl4).mono ?_); rintro e w5 (⟨_, P2, pc2, X2', xc2, ys2, rfl, hys2, h40, hP2, hX2, hpt2, hb5⟩ | ⟨hz', _⟩); rotate_left; exact absurd rfl hz'))
    refine name_world (fun W6 hW6 => ?_)
    have hl56 : Later w5 W6 := by rw [hW6]; exact (by repeat' (with_reducible first | exact Later.refl _ | assumption | refine Later.drew ?_ | refine Later.drewN ?_ _ | refine Later.alloc ?_ _ | refine Later.put ?_ (by omega) _ | refine Later.trans ?_ (by assumption)))
    have hl46 : Later W4 W6 := hb5.trans hl56
    have DK : Blk W6 w5.heap.size 36 #[.int .i64 len, .int .i64 wd, .int .i64 rx, .int .i64 ry, .slice s1 sz.length c1, .slice s2 pl.length c2, .slice P2 ys2.length pc2] := by rw [hW6]; exact (by repeat' (with_reducible first | assumption | (refine Blk.newAt ?_; simp; done) | refine Blk.alloc ?_ _ | refine Blk.drew ?_ | refine Blk.drewN ?_ _ | refine Blk.later ?_ (by assumption)))
    have DL6 := DL.later hl46
    have hyl : ys.length ≤ 40 := by rw [← hys, List.length_map] at hy40; exact hy40
    have HSm := Lib.hid (fun W (hW : Later W6 W) => ref33_Same_eq S1 S2 s1 s2 d1 d2 c1 c2 len wd rx ry sz pl W (X1.out.later (hl46.trans hW)) (hsz.later (hl4.trans (hl46.trans hW))) (X2.out.later (hl46.trans hW)) (hpl.later (hl4.trans (hl46.trans hW))) (by omega) (by omega))
    have HSp := Lib.hid (fun W (hW : Later W6 W) => by
      have h := ref38_SamePlies P P2 pc pc2 ys ys2 W (by omega) (by omega) (X3.out.later (hl46.trans hW)) (Plys.later hP2 (hl56.trans hW)) (fun y hy => by
        have e : ys.map (fun y => y.parts) = ys2.map (fun y => y.parts) := by
          have := congrArg (List.map Prod.snd) (hys.trans hys2.symm)
          rw [List.map_map, List.map_map] at this
          exact this
        have hm : y.parts ∈ ys2.map (fun y => y.parts) := by rw [← e]; exact List.mem_map_of_mem hy
        obtain ⟨z, hz1, hz2⟩ := List.mem_map.1 hm
        rw [← hz2]
        have := hpt2 z hz1
        omega)
      rw [show samePl ys ys2 = true from decide_eq_true (hys.trans hys2.symm)] at h
      exact h)
    have HSr := Lib.hid (fun W (hW : Later W6 W) => by
      have h := ref38_SameRests X X2' xc xc2 xs xs W (by omega) (X4.out.later (hl46.trans hW)) (hX2.later (hl56.trans hW))
      rw [decide_eq_true_iff.2 rfl] at h
      exact h)
    have hl6 := hl4.trans hl46
    clear hW6 k0 k1 k2 k3 k4 k5 k6 k7 k8 k9 zk D2 D4 DL hys hys2 hpt2 hP2 hX2 h40 hyl hb3 hb5 hl34 hl56 hl46 hl2 hl4 HS HR
    have l0 : W6.cell? ⟨w3.heap.size, 0, none⟩ = some (.int .i64 len) := DL6.cell 0
    have l1 : W6.cell? ⟨w3.heap.size, 1, none⟩ = some (.int .i64 wd) := DL6.cell 1
    have l2 : W6.cell? ⟨w3.heap.size, 2, none⟩ = some (.int .i64 rx) := DL6.cell 2
    have l3 : W6.cell? ⟨w3.heap.size, 3, none⟩ = some (.int .i64 ry) := DL6.cell 3
    have l4 : W6.cell? ⟨w3.heap.size, 4, none⟩ = some (.slice S1 sz.length d1) := DL6.cell 4
    have l5 : W6.cell? ⟨w3.heap.size, 5, none⟩ = some (.slice S2 pl.length d2) := DL6.cell 5
    have l6 : W6.cell? ⟨w3.heap.size, 6, none⟩ = some (.slice P ys.length pc) := DL6.cell 6
    have zl := DL6.lt
    have q0 : W6.cell? ⟨w5.heap.size, 0, none⟩ = some (.int .i64 len) := DK.cell 0
    have q1 : W6.cell? ⟨w5.heap.size, 1, none⟩ = some (.int .i64 wd) := DK.cell 1
    have q2 : W6.cell? ⟨w5.heap.size, 2, none⟩ = some (.int .i64 rx) := DK.cell 2
    have q3 : W6.cell? ⟨w5.heap.size, 3, none⟩ = some (.int .i64 ry) := DK.cell 3
    have q4 : W6.cell? ⟨w5.heap.size, 4, none⟩ = some (.slice s1 sz.length c1) := DK.cell 4
    have q5 : W6.cell? ⟨w5.heap.size, 5, none⟩ = some (.slice s2 pl.length c2) := DK.cell 5
    have q6 : W6.cell? ⟨w5.heap.size, 6, none⟩ = some (.slice P2 ys2.length pc2) := DK.cell 6
    have zq := DK.lt
    generalize w3.heap.size = g3 at *
    generalize w5.heap.size = g5 at *
    go_wp2_with (first
      | (go_at_call 17; (with_reducible refine (HSm.out _ (by repeat' (with_reducible first | exact Later.refl _ | assumption | refine Later.drew ?_ | refine Later.drewN ?_ _ | refine Later.alloc ?_ _ | refine Later.put ?_ (by omega) _ | refine Later.trans ?_ (by assumption)))).mono ?_); rintro e w7 ⟨rfl, hb7⟩; have l6 := hb7.cell l6; have q6 := hb7.cell q6)
      | (go_at_call 18; (with_reducible refine (HSp.out _ (by repeat' (with_reducible first | exact Later.refl _ | assumption | refine Later.drew ?_ | refine Later.drewN ?_ _ | refine Later.alloc ?_ _ | refine Later.put ?_ (by omega) _ | refine Later.trans ?_ (by assumption)))).mono ?_); rintro e w8 ⟨rfl, hb8⟩)
      | (go_at_call 19; (with_reducible refine (HSr.out _ (by repeat' (with_reducible first | exact Later.refl _ | assumption | refine Later.drew ?_ | refine Later.drewN ?_ _ | refine Later.alloc ?_ _ | refine Later.put ?_ (by omega) _ | refine Later.trans ?_ (by assumption)))).mono ?_); rintro e w9 ⟨rfl, hb9⟩)
      | (go_at_call 14; (with_reducible refine (HX.out _).mono ?_); rintro e w10 ⟨rfl, hb10⟩))
    go_ret
    exact ⟨rfl, hl6.trans (by repeat' (with_reducible first | exact Later.refl _ | assumption | refine Later.drew ?_ | refine Later.drewN ?_ _ | refine Later.alloc ?_ _ | refine Later.put ?_ (by omega) _ | refine Later.trans ?_ (by assumption)))⟩
  · unfold SpreadPost at HS
    unfold RSpreadPost at HR
    unfold C8.agg at HF ⊢
    clear hfew hc a7
    generalize spR c = R at *
    obtain ⟨yl, xs, er⟩ := R
    obtain ⟨len, wd, rx, ry, s1, c1, sz, s2, c2, pl, qa, qc, ps, ra, rc, rs, la, lc, lots, aa, ac, plies⟩ := c
    simp only [] at HF HS HR hsz hpl a1 a2 a3 a4 a5 a6 hz ⊢
    have Hz := Lib.hid hz
    clear hz
    have hn : ∀ W, Ints W none ([] : List Int) := fun W h => absurd h (by simp)
    have HSm := Lib.hid (fun W => ref33_Same_eq none none none none 0 0 0 0 0 0 0 0 [] [] W (hn W) (hn W) (fun h => absurd h (by simp)) (fun h => absurd h (by simp)) (by simp) (by simp))
    have HSp := Lib.hid (fun W => ref38_SamePlies none none 0 0 [] [] W (by simp) (by simp) (fun h => absurd h (by simp)) (fun h => absurd h (by simp)) (fun y hy => by cases hy))
    have HSr := Lib.hid (fun W => show Calls Try.prog 19 #[.slice none 0 0, .slice none 0 0] W (Ret (.bool true) W) from by
      have h := ref38_SameRests none none 0 0 [] [] W (by simp) (fun h => absurd h (by simp)) (fun h => absurd h (by simp))
      rw [decide_eq_true_iff.2 rfl] at h
      exact h)
    simp only [List.length_nil] at HSm HSp
    rw [show samePl [] [] = true from rfl] at HSp
    clear hn
    go_enter Try.func3, Try.ntmps3
    go_upto_region 3 with (first | (go_at_call 13; (with_reducible refine (HF.out _ (by repeat' (with_reducible first | exact Later.refl _ | assumption | refine Later.drew ?_ | refine Later.drewN ?_ _ | refine Later.alloc ?_ _ | refine Later.put ?_ (by omega) _ | refine Later.trans ?_ (by assumption)))).mono ?_); rintro e w2 ⟨rfl, hb2⟩; have D2 : Blk w2 w.heap.size 31 #[.int .i64 len, .int .i64 wd, .int .i64 rx, .int .i64 ry, .slice s1 sz.length c1, .slice s2 pl.length c2, .slice qa ps.length qc, .slice ra rs.length rc, .slice la lots.length lc, .slice aa plies.length ac] := Blk.later (by repeat' (with_reducible first | assumption | (refine Blk.newAt ?_; simp; done) | refine Blk.alloc ?_ _ | refine Blk.drew ?_ | refine Blk.drewN ?_ _ | refine Blk.later ?_ (by assumption))) hb2))
    have hl2 : Later w w2 := (by repeat' (with_reducible first | exact Later.refl _ | assumption | refine Later.drew ?_ | refine Later.drewN ?_ _ | refine Later.alloc ?_ _ | refine Later.put ?_ (by omega) _ | refine Later.trans ?_ (by assumption)))
    clear hb2 HF
    have k0 : w2.cell? ⟨w.heap.size, 0, none⟩ = some (.int .i64 len) := D2.cell 0
    have k1 : w2.cell? ⟨w.heap.size, 1, none⟩ = some (.int .i64 wd) := D2.cell 1
    have k2 : w2.cell? ⟨w.heap.size, 2, none⟩ = some (.int .i64 rx) := D2.cell 2
    have k3 : w2.cell? ⟨w.heap.size, 3, none⟩ = some (.int .i64 ry) := D2.cell 3
    have k4 : w2.cell? ⟨w.heap.size, 4, none⟩ = some (.slice s1 sz.length c1) := D2.cell 4
    have k5 : w2.cell? ⟨w.heap.size, 5, none⟩ = some (.slice s2 pl.length c2) := D2.cell 5
    have k6 : w2.cell? ⟨w.heap.size, 6, none⟩ = some (.slice qa ps.length qc) := D2.cell 6
    have k7 : w2.cell? ⟨w.heap.size, 7, none⟩ = some (.slice ra rs.length rc) := D2.cell 7
    have k8 : w2.cell? ⟨w.heap.size, 8, none⟩ = some (.slice la lots.length lc) := D2.cell 8
    have k9 : w2.cell? ⟨w.heap.size, 9, none⟩ = some (.slice aa plies.length ac) := D2.cell 9
    have zk := D2.lt
    go_upto_region 4 with (first | (go_at_call 15; (with_reducible refine (HS.out _ hl2).mono ?_); rintro e w3 (⟨hz', _⟩ | ⟨_, rfl, hb3⟩); exact absurd hz' Hz.out))
    refine name_world (fun W4 hW4 => ?_)
    have hl34 : Later w3 W4 := by rw [hW4]; exact (by repeat' (with_reducible first | exact Later.refl _ | assumption | refine Later.drew ?_ | refine Later.drewN ?_ _ | refine Later.alloc ?_ _ | refine Later.put ?_ (by omega) _ | refine Later.trans ?_ (by assumption)))
    have hl4 : Later w W4 := hl2.trans (hb3.trans hl34)
    have DL : Blk W4 w3.heap.size 36 #[.int .i64 0, .int .i64 0, .int .i64 0, .int .i64 0, .slice none 0 0, .slice none 0 0, .slice none 0 0] := by rw [hW4]; exact (by repeat' (with_reducible first | assumption | (refine Blk.newAt ?_; simp; done) | refine Blk.alloc ?_ _ | refine Blk.drew ?_ | refine Blk.drewN ?_ _ | refine Blk.later ?_ (by assumption)))
    have D4 := D2.later (hb3.trans hl34)
    clear hW4 k0 k1 k2 k3 k4 k5 k6 k7 k8 k9 zk
    have k0 : W4.cell? ⟨w.heap.size, 0, none⟩ = some (.int .i64 len) := D4.cell 0
    have k1 : W4.cell? ⟨w.heap.size, 1, none⟩ = some (.int .i64 wd) := D4.cell 1
    have k2 : W4.cell? ⟨w.heap.size, 2, none⟩ = some (.int .i64 rx) := D4.cell 2
    have k3 : W4.cell? ⟨w.heap.size, 3, none⟩ = some (.int .i64 ry) := D4.cell 3
    have k4 : W4.cell? ⟨w.heap.size, 4, none⟩ = some (.slice s1 sz.length c1) := D4.cell 4
    have k5 : W4.cell? ⟨w.heap.size, 5, none⟩ = some (.slice s2 pl.length c2) := D4.cell 5
    have k6 : W4.cell? ⟨w.heap.size, 6, none⟩ = some (.slice qa ps.length qc) := D4.cell 6
    have k7 : W4.cell? ⟨w.heap.size, 7, none⟩ = some (.slice ra rs.length rc) := D4.cell 7
    have k8 : W4.cell? ⟨w.heap.size, 8, none⟩ = some (.slice la lots.length lc) := D4.cell 8
    have k9 : W4.cell? ⟨w.heap.size, 9, none⟩ = some (.slice aa plies.length ac) := D4.cell 9
    have zk := D4.lt
    go_upto_region 5 with (first | (go_at_call 16; (with_reducible refine (HR.out _ hl4).mono ?_); rintro e w5 (⟨hz', _⟩ | ⟨_, rfl, hb5⟩); exact absurd hz' Hz.out))
    refine name_world (fun W6 hW6 => ?_)
    have hl56 : Later w5 W6 := by rw [hW6]; exact (by repeat' (with_reducible first | exact Later.refl _ | assumption | refine Later.drew ?_ | refine Later.drewN ?_ _ | refine Later.alloc ?_ _ | refine Later.put ?_ (by omega) _ | refine Later.trans ?_ (by assumption)))
    have hl46 : Later W4 W6 := hb5.trans hl56
    have DK : Blk W6 w5.heap.size 36 #[.int .i64 0, .int .i64 0, .int .i64 0, .int .i64 0, .slice none 0 0, .slice none 0 0, .slice none 0 0] := by rw [hW6]; exact (by repeat' (with_reducible first | assumption | (refine Blk.newAt ?_; simp; done) | refine Blk.alloc ?_ _ | refine Blk.drew ?_ | refine Blk.drewN ?_ _ | refine Blk.later ?_ (by assumption)))
    have DL6 := DL.later hl46
    have hl6 := hl4.trans hl46
    clear hW6 k0 k1 k2 k3 k4 k5 k6 k7 k8 k9 zk D2 D4 DL hb3 hb5 hl34 hl56 hl46 hl2 hl4 HS HR
    have l0 : W6.cell? ⟨w3.heap.size, 0, none⟩ = some (.int .i64 0) := DL6.cell 0
    have l1 : W6.cell? ⟨w3.heap.size, 1, none⟩ = some (.int .i64 0) := DL6.cell 1
    have l2 : W6.cell? ⟨w3.heap.size, 2, none⟩ = some (.int .i64 0) := DL6.cell 2
    have l3 : W6.cell? ⟨w3.heap.size, 3, none⟩ = some (.int .i64 0) := DL6.cell 3
    have l4 : W6.cell? ⟨w3.heap.size, 4, none⟩ = some (.slice none 0 0) := DL6.cell 4
    have l5 : W6.cell? ⟨w3.heap.size, 5, none⟩ = some (.slice none 0 0) := DL6.cell 5
    have l6 : W6.cell? ⟨w3.heap.size, 6, none⟩ = some (.slice none 0 0) := DL6.cell 6
    have zl := DL6.lt
    have q0 : W6.cell? ⟨w5.heap.size, 0, none⟩ = some (.int .i64 0) := DK.cell 0
    have q1 : W6.cell? ⟨w5.heap.size, 1, none⟩ = some (.int .i64 0) := DK.cell 1
    have q2 : W6.cell? ⟨w5.heap.size, 2, none⟩ = some (.int .i64 0) := DK.cell 2
    have q3 : W6.cell? ⟨w5.heap.size, 3, none⟩ = some (.int .i64 0) := DK.cell 3
    have q4 : W6.cell? ⟨w5.heap.size, 4, none⟩ = some (.slice none 0 0) := DK.cell 4
    have q5 : W6.cell? ⟨w5.heap.size, 5, none⟩ = some (.slice none 0 0) := DK.cell 5
    have q6 : W6.cell? ⟨w5.heap.size, 6, none⟩ = some (.slice none 0 0) := DK.cell 6
    have zq := DK.lt
    generalize w3.heap.size = g3 at *
    generalize w5.heap.size = g5 at *
    go_wp2_with (first
      | (go_at_call 17; (with_reducible refine (HSm.out _).mono ?_); rintro e w7 ⟨rfl, hb7⟩; have l6 := hb7.cell l6; have q6 := hb7.cell q6)
      | (go_at_call 18; (with_reducible refine (HSp.out _).mono ?_); rintro e w8 ⟨rfl, hb8⟩)
      | (go_at_call 19; (with_reducible refine (HSr.out _).mono ?_); rintro e w9 ⟨rfl, hb9⟩)
      | (go_at_call 14; (with_reducible refine (HX.out _).mono ?_); rintro e w10 ⟨rfl, hb10⟩))
    go_ret
    exact ⟨rfl, hl6.trans (by repeat' (with_reducible first | exact Later.refl _ | assumption | refine Later.drew ?_ | refine Later.drewN ?_ _ | refine Later.alloc ?_ _ | refine Later.put ?_ (by omega) _ | refine Later.trans ?_ (by assumption)))⟩

end Go.Proofs.Ytehfpjlcbhimkaa
