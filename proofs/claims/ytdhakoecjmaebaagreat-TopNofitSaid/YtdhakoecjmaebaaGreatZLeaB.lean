/-
  The walks of turn.All; a comparison.
-/
import Derived.Test.YtdhakoecjmaebaaGreatZBagE
namespace Go.Proofs.YtdhakoecjmaebaaGreat
open Go.RowKit Go.Lib Go.Shelf
set_option linter.unusedSimpArgs false
set_option linter.unusedVariables false

/- turn.All. -/
def tn2 (q : Int) : List Value := [.bool false, .int .i64 q]
theorem tn2_len (q : Int) : (tn2 q).length = 2 := rfl
theorem tn2_one (q : Int) : ∀ u ∈ tn2 q, u.oneCell' = true := by
  intro u hu
  simp only [tn2, List.mem_cons, List.not_mem_nil, or_false] at hu
  rcases hu with rfl | rfl <;> rfl
theorem slt_turn : SlT Tryz.prog 122 42 2 := SlT.mk (z := .agg #[.bool false, .int .i64 0]) (by_ := 16) Tryz.underlying122 (by kernel_rfl) (by omega) rfl (by omega)
theorem turns_next {f : Int → Bool} {k : Nat} (h : k < 4) : (([0, 1, 2, 3] : List Int).take (k + 1)).filter f = (([0, 1, 2, 3] : List Int).take k).filter f ++ if f (k : Int) = true then [(k : Int)] else [] := by
  have : k = 0 ∨ k = 1 ∨ k = 2 ∨ k = 3 := by omega
  rcases this with rfl | rfl | rfl | rfl <;> simp only [List.take_succ_cons, List.take_zero, List.filter_cons, List.filter_nil] <;> (try (cases f 0)) <;> (try (cases f 1)) <;> (try (cases f 2)) <;> (try (cases f 3)) <;> simp_all
set_option maxHeartbeats 4000000 in
theorem turn_All (g : Int) (w : World) : Calls Tryz.prog 50 #[.int .i64 g, .bool false] w (fun e w' => ∃ v, e = .returned v ∧ OwnR w' w.heap.size 42 2 tn2 v (turnsR g) ∧ Later w w') := by
  have HR := Lib.hid (show turnsR g = (([0, 1, 2, 3] : List Int).take 4).filter fun q => allowB g false q from rfl)
  have HN := Lib.hid (fun k (h : k < 4) => turns_next (f := fun q => allowB g false q) h)
  have HA := Lib.hid (fun q W => turn_Allowed g false q W)
  have HL := Lib.hid (fun k => List.length_filter_le (fun q => allowB g false q) (([0, 1, 2, 3] : List Int).take k))
  generalize turnsR g = R at *
  go_enter Tryz.func50, Tryz.ntmps50
  go_upto_region 3 with fail
  go_loopw [5, 8] (fun v iv wr => ∃ k : Nat, k ≤ 4 ∧ iv = .int .i64 k ∧ OwnR wr w.heap.size 42 2 tn2 v ((([0, 1, 2, 3] : List Int).take k).filter fun q => allowB g false q) ∧ Later w wr) (fun _ iv _ => 4 - (intOf iv).toNat)
  case atStart => exact ⟨0, by omega, rfl, World.ownsRow_nil _ _ _ _, Later.refl _⟩
  case round =>
    obtain ⟨k, hk, rfl, ho, hb⟩ := hrel
    have Ho := Lib.hid ho
    clear ho
    by_cases hlt : k < 4
    · have Hn := Lib.hid (HN.out k hlt)
      have hll := HL.out k
      rw [List.length_take] at hll
      have hcl : ((([0, 1, 2, 3] : List Int).take k).filter fun q => allowB g false q).length ≤ 4 := by omega
      have HAk := Lib.hid (fun W => HA.out (k : Int) W)
      obtain ⟨q, hq⟩ : ∃ q, allowB g false (k : Int) = q := ⟨_, rfl⟩
      rw [hq] at HAk Hn
      generalize (([0, 1, 2, 3] : List Int).take k).filter (fun q => allowB g false q) = cur at *
      clear hq hll
      go_upto_region 6 with fail
      refine name_world (fun Wp hWp => ?_)
      have hbp : Later wr Wp := by rw [hWp]; exact (by repeat' (with_reducible first | exact Later.refl _ | assumption | refine Later.drew ?_ | refine Later.drewN ?_ _ | refine Later.alloc ?_ _ | refine Later.put ?_ (by omega) _ | refine Later.trans ?_ (by assumption)))
      have Dp : Blk Wp wr.heap.size 42 #[.bool false, .int .i64 k] := by rw [hWp]; exact (by repeat' (with_reducible first | assumption | (refine Blk.newAt ?_; simp; done) | refine Blk.alloc ?_ _ | refine Blk.drew ?_ | refine Blk.drewN ?_ _ | refine Blk.later ?_ (by assumption)))
      clear hWp
      have k0 : Wp.cell? ⟨wr.heap.size, 0, none⟩ = some (.bool false) := Dp.cell 0
      have k1 : Wp.cell? ⟨wr.heap.size, 1, none⟩ = some (.int .i64 k) := Dp.cell 1
      have zp := Dp.lt
      generalize wr.heap.size = gp at *
      rcases q with _ | _
      · rw [if_neg (by simp), List.append_nil] at Hn
        go_wp2_with (go_at_call 11; (with_reducible refine (HAk.out _).mono ?_); rintro e w1 ⟨rfl, hb1⟩)
        have hl1 : Later wr w1 := hbp.trans hb1
        go_roundw
        case rel => exact ⟨k + 1, by omega, by go_num, by rw [Hn.out]; exact Ho.out.later hl1, hb.trans hl1⟩
        case measure => simp [intOf]; omega
      · rw [if_pos rfl] at Hn
        go_upto_region 7 with (go_at_call 11; (with_reducible refine (HAk.out _).mono ?_); rintro e w1 ⟨rfl, hb1⟩)
        have hl1 : Later wr w1 := hbp.trans hb1
        have D1 := Dp.later hb1
        clear k0 k1 zp
        have k0 : w1.cell? ⟨gp, 0, none⟩ = some (.bool false) := D1.cell 0
        have k1 : w1.cell? ⟨gp, 1, none⟩ = some (.int .i64 k) := D1.cell 1
        have zp := D1.lt
        have Ho1 := Lib.hid (Ho.out.later hl1)
        have hlw := hb.trans hl1
        go_wp2_with (at_builtin; refine wpList_append_rec slt_turn tn2_len tn2_one rfl (.tmp 18) (.tmp 20) rfl (base := w.heap.size) (l := cur) rfl (OwnR.alloc Ho1.out _) (A := some ⟨w1.heap.size, 0, none⟩) (c := 1) [(k : Int)] rfl (by intro h; cases h) (SrcAt.blk (cs := #[.bool false, .int .i64 k]) (by repeat' (with_reducible first | assumption | (refine Blk.newAt ?_; simp; done) | refine Blk.alloc ?_ _ | refine Blk.drew ?_ | refine Blk.drewN ?_ _ | refine Blk.later ?_ (by assumption)))) (by simp; omega) (by have := hlw.size; simp; omega) ?_; intro A7 c7 w7 ho7 hg7)
        have hl7 : Later w w7 := Later.grown (hlw.alloc _) hg7 (fun g hg => (World.ownsRow.lt Ho.out g hg).1)
        have Ho7 := Lib.hid ho7
        clear ho7 hg7
        go_roundw
        case rel => exact ⟨k + 1, by omega, by go_num, by rw [Hn.out]; exact own_len Ho7.out (by simp), hl7⟩
        case measure => simp [intOf]; omega
    · have hke : k = 4 := by omega
      subst hke
      rw [← HR.out] at Ho
      go_wp2
      go_ret
      exact ⟨_, rfl, Ho.out, hb⟩

/- fill.compareEndings. -/
theorem cmpEn_or (a b : En) : cmpEn a b = orI [Lib.compareInt a.r b.r, Lib.compareInt a.p.y b.p.y, Lib.compareInt a.p.x b.p.x, Lib.compareInt a.p.q b.p.q] := by
  unfold cmpEn
  generalize Lib.compareInt a.r b.r = c1
  generalize Lib.compareInt a.p.y b.p.y = c2
  generalize Lib.compareInt a.p.x b.p.x = c3
  generalize Lib.compareInt a.p.q b.p.q = c4
  simp only [orI]
  by_cases h1 : c1 = 0 <;> by_cases h2 : c2 = 0 <;> by_cases h3 : c3 = 0 <;> by_cases h4 : c4 = 0 <;> simp [h1, h2, h3, h4]
end Go.Proofs.YtdhakoecjmaebaaGreat
/-
  The walk of fill.compareEndings.
-/
namespace Go.Proofs.YtdhakoecjmaebaaGreat
open Go.RowKit Go.Lib Go.Shelf
set_option linter.unusedSimpArgs false
set_option linter.unusedVariables false

set_option maxRecDepth 100000 in
set_option maxHeartbeats 4000000 in
theorem fill_compareEndings (x y : En) (W : World) : Calls Tryz.prog 55 #[.agg #[.int .i64 x.p.sh, .bool x.p.fl, .int .i64 x.p.q, .int .i64 x.p.x, .int .i64 x.p.y, .int .i64 x.r], .agg #[.int .i64 y.p.sh, .bool y.p.fl, .int .i64 y.p.q, .int .i64 y.p.x, .int .i64 y.p.y, .int .i64 y.r]] W (Ret (.int .i64 (cmpEn x y)) W) := by
  have hcon := fun a b W' => AnyG.cmp_Compare_int cmpInt a b W'
  change ∀ a b W', Calls Tryz.prog 95 _ _ _ at hcon
  have HC := Lib.hid hcon
  have HD := Lib.hid (cmpEn_or x y)
  clear hcon
  obtain ⟨⟨x1, x2, x3, x4, x5⟩, x6⟩ := x
  obtain ⟨⟨y1, y2, y3, y4, y5⟩, y6⟩ := y
  simp only [] at HD ⊢
  have HC1 := Lib.hid (fun W' => HC.out x6 y6 W')
  have HC2 := Lib.hid (fun W' => HC.out x5 y5 W')
  have HC3 := Lib.hid (fun W' => HC.out x4 y4 W')
  have HC4 := Lib.hid (fun W' => HC.out x3 y3 W')
  have HO := Lib.hid (fun (g : Nat) (W' : World) (h0 : W'.cell? ⟨g, 0, none⟩ = some (.int .i64 (Lib.compareInt x6 y6))) (h1 : W'.cell? ⟨g, 1, none⟩ = some (.int .i64 (Lib.compareInt x5 y5))) (h2 : W'.cell? ⟨g, 2, none⟩ = some (.int .i64 (Lib.compareInt x4 y4))) (h3 : W'.cell? ⟨g, 3, none⟩ = some (.int .i64 (Lib.compareInt x3 y3))) =>
    cmp_Or g [Lib.compareInt x6 y6, Lib.compareInt x5 y5, Lib.compareInt x4 y4, Lib.compareInt x3 y3] W' (by simp) (by
      intro i hi
      rcases i with _ | _ | _ | _ | i
      · exact h0
      · exact h1
      · exact h2
      · exact h3
      · simp at hi; omega))
  clear HC
  generalize cmpEn ⟨⟨x1, x2, x3, x4, x5⟩, x6⟩ ⟨⟨y1, y2, y3, y4, y5⟩, y6⟩ = r at *
  rw [← HD.out] at HO
  generalize Lib.compareInt x6 y6 = m1 at *
  generalize Lib.compareInt x5 y5 = m2 at *
  generalize Lib.compareInt x4 y4 = m3 at *
  generalize Lib.compareInt x3 y3 = m4 at *
  clear HD
  go_enter Tryz.func55, Tryz.ntmps55
  go_upto_region 1 with fail
  refine name_world (fun W1 hW1 => ?_)
  have hl : Later W W1 := by rw [hW1]; exact (by repeat' (with_reducible first | exact Later.refl _ | assumption | refine Later.drew ?_ | refine Later.drewN ?_ _ | refine Later.alloc ?_ _ | refine Later.put ?_ (by omega) _ | refine Later.trans ?_ (by assumption)))
  have B0 : Blk W1 W.heap.size 128 #[.int .i64 x1, .bool x2, .int .i64 x3, .int .i64 x4, .int .i64 x5, .int .i64 x6] := by rw [hW1]; exact (by repeat' (with_reducible first | assumption | (refine Blk.newAt ?_; simp; done) | refine Blk.alloc ?_ _ | refine Blk.drew ?_ | refine Blk.drewN ?_ _ | refine Blk.later ?_ (by assumption)))
  have B1 : Blk W1 (W.heap.size + 1) 128 #[.int .i64 y1, .bool y2, .int .i64 y3, .int .i64 y4, .int .i64 y5, .int .i64 y6] := by rw [hW1]; exact (by repeat' (with_reducible first | assumption | (refine Blk.newAt ?_; simp; done) | refine Blk.alloc ?_ _ | refine Blk.drew ?_ | refine Blk.drewN ?_ _ | refine Blk.later ?_ (by assumption)))
  clear hW1
  have k2 : W1.cell? ⟨W.heap.size, 2, none⟩ = some (.int .i64 x3) := B0.cell 2
  have k3 : W1.cell? ⟨W.heap.size, 3, none⟩ = some (.int .i64 x4) := B0.cell 3
  have k4 : W1.cell? ⟨W.heap.size, 4, none⟩ = some (.int .i64 x5) := B0.cell 4
  have k5 : W1.cell? ⟨W.heap.size, 5, none⟩ = some (.int .i64 x6) := B0.cell 5
  have u2 : W1.cell? ⟨W.heap.size + 1, 2, none⟩ = some (.int .i64 y3) := B1.cell 2
  have u3 : W1.cell? ⟨W.heap.size + 1, 3, none⟩ = some (.int .i64 y4) := B1.cell 3
  have u4 : W1.cell? ⟨W.heap.size + 1, 4, none⟩ = some (.int .i64 y5) := B1.cell 4
  have u5 : W1.cell? ⟨W.heap.size + 1, 5, none⟩ = some (.int .i64 y6) := B1.cell 5
  have z0 := B0.lt
  have z1 := B1.lt
  clear B0 B1
  refine wp_region_still_tail 32 (by kernel_rfl) (by kernel_rfl) ?_
  simp only [List.take_succ_cons, List.take_zero, List.drop_succ_cons, List.drop_zero]
  iterate 4 still_step
  still_call (HC1.out _)
  iterate 8 still_step
  still_call (HC2.out _)
  iterate 8 still_step
  still_call (HC3.out _)
  iterate 8 still_step
  still_call (HC4.out _)
  refine wpStill_nil ?_
  change wpList _ _ _ _ _ (World.drew _)
  clear k2 k3 k4 k5 u2 u3 u4 u5
  go_wp2_with (first | (go_at_call 94; refine (HO.out _ _ (by simp [go_sem]) (by simp [go_sem]) (by simp [go_sem]) (by simp [go_sem])).mono ?_; rintro e w' ⟨rfl, rfl⟩))
  go_ret
  exact ⟨rfl, (by repeat' (with_reducible first | exact Later.refl _ | assumption | refine Later.drew ?_ | refine Later.drewN ?_ _ | refine Later.alloc ?_ _ | refine Later.put ?_ (by omega) _ | refine Later.trans ?_ (by assumption)))⟩
end Go.Proofs.YtdhakoecjmaebaaGreat
