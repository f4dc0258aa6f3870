/-
  PlaceFits, walked: Fits returns the specified error.
-/
import Derived.Test.YtolddfapanabbaaOpen30
import Derived.Test.YtolddfapanabbaaRefX
namespace Go.Proofs.Ytolddfapanabbaa
open Go.RowKit
set_option linter.unusedSimpArgs false
set_option linter.unusedVariables false

set_option maxHeartbeats 2000000 in
theorem law30_PlaceFits_few (hex : ∀ W, Calls Try.prog 29 #[] W (Ret (.bool true) W)) (c : Cs) (p : Pu) (w : World) (hc : CsOk w c) (hf : fewCs c = false) :
    Calls Try.prog 10 #[c.agg, p.agg] w (Ret (.bool true) w) := by
  have HX := Lib.hid hex
  have HF := Lib.hid (fun W (hW : Later w W) => law30_few c W (hc.later hW))
  rw [hf] at HF
  clear hf
  unfold Cs.agg at HF ⊢
  obtain ⟨⟨bl, bw, rx, ry⟩, sa, sc, sh, pa, pc, pu⟩ := c
  unfold Pu.agg
  obtain ⟨osh, ofl, oq, ox, oy⟩ := p
  simp only [] at HF ⊢
  go_enter Try.func10, Try.ntmps10
  go_wp2_with (first | (go_at_call 28; (with_reducible refine (HF.out _ (by repeat' (with_reducible first | exact Later.refl _ | assumption | refine Later.drew ?_ | refine Later.drewN ?_ _ | refine Later.alloc ?_ _ | refine Later.put ?_ (by omega) _ | refine Later.trans ?_ (by assumption)))).mono ?_); rintro e w1 ⟨rfl, hb1⟩) | (go_at_call 29; refine (HX.out _).mono ?_; rintro e w2 ⟨rfl, hb2⟩))
  go_ret
  exact ⟨rfl, (by repeat' (with_reducible first | exact Later.refl _ | assumption | refine Later.drew ?_ | refine Later.drewN ?_ _ | refine Later.alloc ?_ _ | refine Later.put ?_ (by omega) _ | refine Later.trans ?_ (by assumption)))⟩

set_option maxHeartbeats 4000000 in
set_option maxRecDepth 100000 in
theorem law30_PlaceFits_in (hex : ∀ W, Calls Try.prog 29 #[] W (Ret (.bool true) W)) (c : Cs) (p : Pu) (w : World) (hc : CsOk w c) (hf : fewCs c = true) :
    Calls Try.prog 10 #[c.agg, p.agg] w (Ret (.bool true) w) := by
  have HX := Lib.hid hex
  have HF := Lib.hid (fun W (hW : Later w W) => law30_few c W (hc.later hW))
  rw [hf] at HF
  unfold fewCs at hf
  rw [Bool.and_eq_true] at hf
  obtain ⟨h8, h12⟩ := fewSh_all hf.1
  have hpl8 : c.pu.length ≤ 8 := by have := hf.2; simp at this; omega
  have hlen : ∀ s ∈ c.sh, s.ps.length ≤ 1099511627776 := fun s hs => by have := h12 s hs; omega
  have HA := Lib.hid (fun W (hW : Later w W) => place_Fits c.b c.sa c.pa c.sc c.pc c.sh c.pu p W (hc.1.later hW) (by omega) hlen (hc.2.2.2.1.later hW) (by omega))
  have HB := Lib.hid (fun W (hW : Later w W) => ref30_Fits c.b c.sa c.pa c.sc c.pc c.sh c.pu p W (hc.1.later hW) (by omega) hlen (hc.2.2.2.1.later hW) (by omega))
  generalize fitsR c.b c.sh c.pu p = fv at *
  unfold Cs.agg at HF ⊢
  unfold Pu.agg Bd.agg at HA HB
  unfold Pu.agg
  obtain ⟨⟨bl, bw, rx, ry⟩, sa, sc, sh, pa, pc, pu⟩ := c
  obtain ⟨osh, ofl, oq, ox, oy⟩ := p
  simp only [] at HF HA HB ⊢
  go_enter Try.func10, Try.ntmps10
  go_upto_region 3 with (first | (go_at_call 28; (with_reducible refine (HF.out _ (by repeat' (with_reducible first | exact Later.refl _ | assumption | refine Later.drew ?_ | refine Later.drewN ?_ _ | refine Later.alloc ?_ _ | refine Later.put ?_ (by omega) _ | refine Later.trans ?_ (by assumption)))).mono ?_); rintro e w1 ⟨rfl, hb1⟩))
  have D0 : Blk w1 w.heap.size 72 #[.int .i64 bl, .int .i64 bw, .int .i64 rx, .int .i64 ry, .slice sa sh.length sc, .slice pa pu.length pc] := Blk.later (by repeat' (with_reducible first | assumption | (refine Blk.newAt ?_; simp; done) | refine Blk.alloc ?_ _ | refine Blk.drew ?_ | refine Blk.drewN ?_ _ | refine Blk.later ?_ (by assumption))) hb1
  have D1 : Blk w1 (w.heap.size + 1) 80 #[.int .i64 osh, .bool ofl, .int .i64 oq, .int .i64 ox, .int .i64 oy] := Blk.later (by repeat' (with_reducible first | assumption | (refine Blk.newAt ?_; simp; done) | refine Blk.alloc ?_ _ | refine Blk.drew ?_ | refine Blk.drewN ?_ _ | refine Blk.later ?_ (by assumption))) hb1
  have hl1 : Later w w1 := (by repeat' (with_reducible first | exact Later.refl _ | assumption | refine Later.drew ?_ | refine Later.drewN ?_ _ | refine Later.alloc ?_ _ | refine Later.put ?_ (by omega) _ | refine Later.trans ?_ (by assumption)))
  clear hb1 HF
  generalize w.heap.size = N at *
  have c0 : w1.cell? ⟨N, 0, none⟩ = some (.int .i64 bl) := D0.cell 0
  have c1 : w1.cell? ⟨N, 1, none⟩ = some (.int .i64 bw) := D0.cell 1
  have c2 : w1.cell? ⟨N, 2, none⟩ = some (.int .i64 rx) := D0.cell 2
  have c3 : w1.cell? ⟨N, 3, none⟩ = some (.int .i64 ry) := D0.cell 3
  have c4 : w1.cell? ⟨N, 4, none⟩ = some (.slice sa sh.length sc) := D0.cell 4
  have c5 : w1.cell? ⟨N, 5, none⟩ = some (.slice pa pu.length pc) := D0.cell 5
  have p0 : w1.cell? ⟨N + 1, 0, none⟩ = some (.int .i64 osh) := D1.cell 0
  have p1 : w1.cell? ⟨N + 1, 1, none⟩ = some (.bool ofl) := D1.cell 1
  have p2 : w1.cell? ⟨N + 1, 2, none⟩ = some (.int .i64 oq) := D1.cell 2
  have p3 : w1.cell? ⟨N + 1, 3, none⟩ = some (.int .i64 ox) := D1.cell 3
  have p4 : w1.cell? ⟨N + 1, 4, none⟩ = some (.int .i64 oy) := D1.cell 4
  clear D0 D1
  go_region_held3 (fun w' : World => (∀ a : Addr, (w1.cell? a).isSome = true → w'.cell? a = w1.cell? a) ∧ Later w1 w') (first | assumption | exact keep_call (by assumption) (by assumption) | exact keep_call (by assumption) ((Later.refl _).alloc _) | exact keep_init _)
    (first | (go_at_call 35; (with_reducible refine (HA.out _ (hl1.trans (by (have hk := (by assumption : _ ∧ Later w1 _).2); exact hk))).mono ?_); rintro e w2 ⟨rfl, hb2⟩) | (go_at_call 36; (with_reducible refine (HB.out _ (hl1.trans (by (have hk := (by assumption : _ ∧ Later w1 _).2); exact hk))).mono ?_); rintro e w3 ⟨rfl, hb3⟩) | (go_at_call 29; refine (HX.out _).mono ?_; rintro e w4 ⟨rfl, hb4⟩))
  all_goals
    rename_i hHw
    go_wp2
    go_ret
    exact ⟨rfl, hl1.trans hHw.2⟩
theorem law30_PlaceFits (hex : ∀ W, Calls Try.prog 29 #[] W (Ret (.bool true) W)) (c : Cs) (p : Pu) (w : World) (hc : CsOk w c) (hpk : PuOk w p) :
    Calls Try.prog 10 #[c.agg, p.agg] w (Ret (.bool true) w) := by
  cases hf : fewCs c
  · exact law30_PlaceFits_few hex c p w hc hf
  · exact law30_PlaceFits_in hex c p w hc hf

end Go.Proofs.Ytolddfapanabbaa
