/-
  PlaceChecks, walked: Check returns the specified error.
-/
import Derived.Test.YtolddfapanabbaaGreatOpen30
import Derived.Test.YtolddfapanabbaaGreatRefY
namespace Go.Proofs.YtolddfapanabbaaGreat
open Go.RowKit
set_option linter.unusedSimpArgs false
set_option linter.unusedVariables false

set_option maxHeartbeats 2000000 in
theorem law30_PlaceChecks_few (hex : ∀ W, Calls Tryz.prog 5 #[] W (Ret (.bool true) W)) (c : Cs) (w : World) (hc : CsOk w c) (hf : fewCs c = false) :
    Calls Tryz.prog 3 #[c.agg] w (Ret (.bool true) w) := by
  have HX := Lib.hid hex
  have HF := Lib.hid (fun W (hW : Later w W) => law30_few c W (hc.later hW))
  rw [hf] at HF
  clear hf
  unfold Cs.agg at HF ⊢
  obtain ⟨⟨bl, bw, rx, ry⟩, sa, sc, sh, pa, pc, pu⟩ := c
  simp only [] at HF ⊢
  go_enter Tryz.func3, Tryz.ntmps3
  go_wp2_with (first | (go_at_call 4; (with_reducible refine (HF.out _ (by repeat' (with_reducible first | exact Later.refl _ | assumption | refine Later.drew ?_ | refine Later.drewN ?_ _ | refine Later.alloc ?_ _ | refine Later.put ?_ (by omega) _ | refine Later.trans ?_ (by assumption)))).mono ?_); rintro e w1 ⟨rfl, hb1⟩) | (go_at_call 5; refine (HX.out _).mono ?_; rintro e w2 ⟨rfl, hb2⟩))
  go_ret
  exact ⟨rfl, (by repeat' (with_reducible first | exact Later.refl _ | assumption | refine Later.drew ?_ | refine Later.drewN ?_ _ | refine Later.alloc ?_ _ | refine Later.put ?_ (by omega) _ | refine Later.trans ?_ (by assumption)))⟩

set_option maxHeartbeats 4000000 in
set_option maxRecDepth 100000 in
theorem law30_PlaceChecks_in (hex : ∀ W, Calls Tryz.prog 5 #[] W (Ret (.bool true) W)) (c : Cs) (w : World) (hc : CsOk w c) (hf : fewCs c = true) :
    Calls Tryz.prog 3 #[c.agg] w (Ret (.bool true) w) := by
  have HX := Lib.hid hex
  have HF := Lib.hid (fun W (hW : Later w W) => law30_few c W (hc.later hW))
  rw [hf] at HF
  unfold fewCs at hf
  rw [Bool.and_eq_true] at hf
  obtain ⟨h8, h12⟩ := fewSh_all hf.1
  have hpl8 : c.pu.length ≤ 8 := by have := hf.2; simp at this; omega
  have hlen : ∀ s ∈ c.sh, s.ps.length ≤ 1099511627776 := fun s hs => by have := h12 s hs; omega
  have HA := Lib.hid (fun W (hW : Later w W) => place_Check c.b c.sa c.pa c.sc c.pc c.sh c.pu W (hc.1.later hW) (by omega) hlen (hc.2.2.2.1.later hW) hc.2.2.2.2.1)
  have HB := Lib.hid (fun W (hW : Later w W) => ref30_Check c.b c.sa c.pa c.sc c.pc c.sh c.pu W (hc.1.later hW) (by omega) hlen (hc.2.2.2.1.later hW) hc.2.2.2.2.1)
  generalize pcheckR c.b c.sh c.pu = fv at *
  unfold Cs.agg at HF ⊢
  unfold Bd.agg at HA HB
  obtain ⟨⟨bl, bw, rx, ry⟩, sa, sc, sh, pa, pc, pu⟩ := c
  simp only [] at HF HA HB ⊢
  go_enter Tryz.func3, Tryz.ntmps3
  go_upto_region 3 with (first | (go_at_call 4; (with_reducible refine (HF.out _ (by repeat' (with_reducible first | exact Later.refl _ | assumption | refine Later.drew ?_ | refine Later.drewN ?_ _ | refine Later.alloc ?_ _ | refine Later.put ?_ (by omega) _ | refine Later.trans ?_ (by assumption)))).mono ?_); rintro e w1 ⟨rfl, hb1⟩))
  have D0 : Blk w1 w.heap.size 29 #[.int .i64 bl, .int .i64 bw, .int .i64 rx, .int .i64 ry, .slice sa sh.length sc, .slice pa pu.length pc] := Blk.later (by repeat' (with_reducible first | assumption | (refine Blk.newAt ?_; simp; done) | refine Blk.alloc ?_ _ | refine Blk.drew ?_ | refine Blk.drewN ?_ _ | refine Blk.later ?_ (by assumption))) hb1
  have hl1 : Later w w1 := (by repeat' (with_reducible first | exact Later.refl _ | assumption | refine Later.drew ?_ | refine Later.drewN ?_ _ | refine Later.alloc ?_ _ | refine Later.put ?_ (by omega) _ | refine Later.trans ?_ (by assumption)))
  clear hb1 HF
  generalize w.heap.size = N at *
  have c0 : w1.cell? ⟨N, 0, none⟩ = some (.int .i64 bl) := D0.cell 0
  have c1 : w1.cell? ⟨N, 1, none⟩ = some (.int .i64 bw) := D0.cell 1
  have c2 : w1.cell? ⟨N, 2, none⟩ = some (.int .i64 rx) := D0.cell 2
  have c3 : w1.cell? ⟨N, 3, none⟩ = some (.int .i64 ry) := D0.cell 3
  have c4 : w1.cell? ⟨N, 4, none⟩ = some (.slice sa sh.length sc) := D0.cell 4
  have c5 : w1.cell? ⟨N, 5, none⟩ = some (.slice pa pu.length pc) := D0.cell 5
  clear D0
  go_region_held3 (fun w' : World => (∀ a : Addr, (w1.cell? a).isSome = true → w'.cell? a = w1.cell? a) ∧ Later w1 w') (first | assumption | exact keep_call (by assumption) (by assumption) | exact keep_call (by assumption) ((Later.refl _).alloc _) | exact keep_init _)
    (first | (go_at_call 6; (with_reducible refine (HA.out _ (hl1.trans (by (have hk := (by assumption : _ ∧ Later w1 _).2); exact hk))).mono ?_); rintro e w2 ⟨rfl, hb2⟩) | (go_at_call 7; (with_reducible refine (HB.out _ (hl1.trans (by (have hk := (by assumption : _ ∧ Later w1 _).2); exact hk))).mono ?_); rintro e w3 ⟨rfl, hb3⟩) | (go_at_call 5; refine (HX.out _).mono ?_; rintro e w4 ⟨rfl, hb4⟩))
  all_goals
    rename_i hHw
    go_wp2
    go_ret
    exact ⟨rfl, hl1.trans hHw.2⟩
theorem law30_PlaceChecks (hex : ∀ W, Calls Tryz.prog 5 #[] W (Ret (.bool true) W)) (c : Cs) (w : World) (hc : CsOk w c) :
    Calls Tryz.prog 3 #[c.agg] w (Ret (.bool true) w) := by
  cases hf : fewCs c
  · exact law30_PlaceChecks_few hex c w hc hf
  · exact law30_PlaceChecks_in hex c w hc hf

end Go.Proofs.YtolddfapanabbaaGreat
