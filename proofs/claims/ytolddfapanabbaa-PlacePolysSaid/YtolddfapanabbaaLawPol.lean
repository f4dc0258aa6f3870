/-
  PlacePolys, walked: Poly and Extent return what is specified.
-/
import Derived.Test.YtolddfapanabbaaOpen30
import Derived.Test.YtolddfapanabbaaRefX
namespace Go.Proofs.Ytolddfapanabbaa
open Go.RowKit
set_option linter.unusedSimpArgs false
set_option linter.unusedVariables false

set_option maxHeartbeats 2000000 in
theorem law30_PlacePolys_few (hex : ∀ W, Calls Try.prog 29 #[] W (Ret (.bool true) W)) (c : Cs) (w : World) (hc : CsOk w c) (hf : fewCs c = false) :
    Calls Try.prog 9 #[c.agg] w (Ret (.bool true) w) := by
  have HX := Lib.hid hex
  have HF := Lib.hid (fun W (hW : Later w W) => law30_few c W (hc.later hW))
  rw [hf] at HF
  clear hf
  unfold Cs.agg at HF ⊢
  obtain ⟨⟨bl, bw, rx, ry⟩, sa, sc, sh, pa, pc, pu⟩ := c
  simp only [] at HF ⊢
  go_enter Try.func9, Try.ntmps9
  go_wp2_with (first | (go_at_call 28; (with_reducible refine (HF.out _ (by repeat' (with_reducible first | exact Later.refl _ | assumption | refine Later.drew ?_ | refine Later.drewN ?_ _ | refine Later.alloc ?_ _ | refine Later.put ?_ (by omega) _ | refine Later.trans ?_ (by assumption)))).mono ?_); rintro e w1 ⟨rfl, hb1⟩) | (go_at_call 29; refine (HX.out _).mono ?_; rintro e w2 ⟨rfl, hb2⟩))
  go_ret
  exact ⟨rfl, (by repeat' (with_reducible first | exact Later.refl _ | assumption | refine Later.drew ?_ | refine Later.drewN ?_ _ | refine Later.alloc ?_ _ | refine Later.put ?_ (by omega) _ | refine Later.trans ?_ (by assumption)))⟩

theorem sameGo_refl (a : List Pt) : ∀ n k, sameGoP a a n k = true := by
  intro n
  induction n with
  | zero => intro k; rfl
  | succ n ih => intro k; rw [sameGoP]; simp [ih]
theorem samePs_refl (a : List Pt) : samePs a a = true := by unfold samePs; rw [if_neg (by simp)]; exact sameGo_refl _ _ _
theorem pts_nil (W : World) (A : Option Addr) : Pts W A [] := fun h => by simp at h

set_option maxHeartbeats 4000000 in
set_option maxRecDepth 100000 in
theorem law30_PlacePolys_in (hex : ∀ W, Calls Try.prog 29 #[] W (Ret (.bool true) W)) (c : Cs) (w : World) (hc : CsOk w c) (hf : fewCs c = true) :
    Calls Try.prog 9 #[c.agg] w (Ret (.bool true) w) := by
  have HX := Lib.hid hex
  have HF := Lib.hid (fun W (hW : Later w W) => law30_few c W (hc.later hW))
  rw [hf] at HF
  unfold fewCs at hf
  rw [Bool.and_eq_true] at hf
  obtain ⟨h8, h12⟩ := fewSh_all hf.1
  have hpl8 : c.pu.length ≤ 8 := by have := hf.2; simp at this; omega
  have hlen : ∀ s ∈ c.sh, s.ps.length ≤ 1099511627776 := fun s hs => by have := h12 s hs; omega
  have HEa := Lib.hid (fun W (hW : Later w W) => place_Extent c.sa c.pa c.sc c.pc c.sh c.pu W (hc.1.later hW) (by omega) hlen (hc.2.2.2.1.later hW) (by omega))
  have HEb := Lib.hid (fun W (hW : Later w W) => ref30_Extent c.sa c.pa c.sc c.pc c.sh c.pu W (hc.1.later hW) (by omega) hlen (hc.2.2.2.1.later hW) (by omega))
  have HAy := Lib.hid (fun o W (hW : Later w W) h => place_Poly_yes c.sa c.sc c.sh o W (hc.1.later hW) (by omega) hlen h)
  have HAn := Lib.hid (fun o W (hW : Later w W) h => place_Poly_no c.sa c.sc c.sh o W (hc.1.later hW) (by omega) hlen h)
  have HBy := Lib.hid (fun o W (hW : Later w W) h => ref30_Poly_yes c.sa c.sc c.sh o W (hc.1.later hW) (by omega) hlen h)
  have HBn := Lib.hid (fun o W (hW : Later w W) h => ref30_Poly_no c.sa c.sc c.sh o W (hc.1.later hW) (by omega) hlen h)
  have HPu := Lib.hid (fun W (hW : Later w W) => hc.2.2.2.1.later hW)
  rcases hext : extR c.sh c.pu with ⟨x9, e9⟩
  rw [hext] at HEa HEb
  clear hext
  unfold Cs.agg at HF ⊢
  obtain ⟨⟨bl, bw, rx, ry⟩, sa, sc, sh, pa, pc, pu⟩ := c
  simp only [] at HF HEa HEb HAy HAn HBy HBn HPu hpl8 ⊢
  go_enter Try.func9, Try.ntmps9
  go_upto_region 3 with (first | (go_at_call 28; (with_reducible refine (HF.out _ (by repeat' (with_reducible first | exact Later.refl _ | assumption | refine Later.drew ?_ | refine Later.drewN ?_ _ | refine Later.alloc ?_ _ | refine Later.put ?_ (by omega) _ | refine Later.trans ?_ (by assumption)))).mono ?_); rintro e w1 ⟨rfl, hb1⟩))
  have D0 : Blk w1 w.heap.size 72 #[.int .i64 bl, .int .i64 bw, .int .i64 rx, .int .i64 ry, .slice sa sh.length sc, .slice pa pu.length pc] := Blk.later (by repeat' (with_reducible first | assumption | (refine Blk.newAt ?_; simp; done) | refine Blk.alloc ?_ _ | refine Blk.drew ?_ | refine Blk.drewN ?_ _ | refine Blk.later ?_ (by assumption))) hb1
  have hl1 : Later w w1 := (by repeat' (with_reducible first | exact Later.refl _ | assumption | refine Later.drew ?_ | refine Later.drewN ?_ _ | refine Later.alloc ?_ _ | refine Later.put ?_ (by omega) _ | refine Later.trans ?_ (by assumption)))
  clear hb1 HF
  generalize w.heap.size = N at *
  have c0 : w1.cell? ⟨N, 0, none⟩ = some (.int .i64 bl) := D0.cell 0
  have c1 : w1.cell? ⟨N, 1, none⟩ = some (.int .i64 bw) := D0.cell 1
  have c2 : w1.cell? ⟨N, 2, none⟩ = some (.int .i64 rx) := D0.cell 2
  have c3 : w1.cell? ⟨N, 3, none⟩ = some (.int .i64 ry) := D0.cell 3
  have c4 : w1.cell? ⟨N, 4, none⟩ = some (.slice sa sh.length sc) := D0.cell 4
  have c5 : w1.cell? ⟨N, 5, none⟩ = some (.slice pa pu.length pc) := D0.cell 5
  have zN := D0.lt
  clear D0 c0 c1 c2 c3
  go_wp2
  go_loopw [2, 3] (fun _ iv wr => ∃ k : Nat, k ≤ pu.length ∧ iv = .int .i64 k ∧ Later w1 wr) (fun _ iv _ => pu.length - (intOf iv).toNat)
  case atStart => exact ⟨0, by omega, rfl, Later.refl _⟩
  case round =>
    obtain ⟨k, hk, rfl, hb⟩ := hrel
    have f4 := hb.cell c4
    have f5 := hb.cell c5
    have zr : N < wr.heap.size := by have := hb.size; omega
    by_cases hlt : k < pu.length
    · obtain ⟨b5, o5, hA5, e0, e1, e2, e3, e4, hok5⟩ := (HPu.out w1 hl1).at_ hlt
      subst hA5
      have r0 := hb.cell e0
      have r1 := hb.cell e1
      have r2 := hb.cell e2
      have r3 := hb.cell e3
      have r4 := hb.cell e4
      have hbz : b5 < wr.heap.size := World.block_lt_of_cell? _ _ r0
      generalize pu[k] = o at *
      have hk0 : (0 : Int) ≤ (k : Int) := by omega
      have hk1 : (k : Int) < (pu.length : Int) := by omega
      rcases Classical.em ((polyR sh o).2 = 0) with hpo | hpo
      · have HQ := Lib.hid (fun W (hW : Later w W) => HAy.out o W hW hpo)
        have HR := Lib.hid (fun W (hW : Later w W) => HBy.out o W hW hpo)
        have h40 := len_of_check (polyR_ok hpo).2.2
        clear hpo
        generalize (polyR sh o).1 = op at *
        unfold Pu.agg at HQ HR
        obtain ⟨osh, ofl, oq, ox, oy⟩ := o
        simp only [] at e0 e1 e2 e3 e4 r0 r1 r2 r3 r4 HQ HR
        go_wp2
        go_region_held3 (fun w' : World => (∀ a : Addr, (wr.cell? a).isSome = true → w'.cell? a = wr.cell? a) ∧ Later wr w') (first | assumption | exact keep_call (by assumption) (by assumption) | exact keep_call (by assumption) ((Later.refl _).alloc _) | exact keep_init _)
          (first | (go_at_call 30; (with_reducible refine (HQ.out _ ((hl1.trans hb).trans (by (have hk := (by assumption : _ ∧ Later wr _).2); exact hk))).mono ?_); rintro e w5 ⟨A5, c5', rfl, z1, z2, z3, hb5⟩))
        rename_i hHw
        have hl5 := hHw.2
        clear hHw
        have g4 := hl5.cell f4
        have g5 := hl5.cell f5
        have s0 := hl5.cell r0
        have s1 := hl5.cell r1
        have s2 := hl5.cell r2
        have s3 := hl5.cell r3
        have s4 := hl5.cell r4
        have hbz5 : b5 < w5.heap.size := World.block_lt_of_cell? _ _ s0
        have zr5 : N < w5.heap.size := World.block_lt_of_cell? _ _ g4
        clear f4 f5 r0 r1 r2 r3 r4 hbz zr
        go_wp2
        go_region_held3 (fun w' : World => (∀ a : Addr, (w5.cell? a).isSome = true → w'.cell? a = w5.cell? a) ∧ Later w5 w') (first | assumption | exact keep_call (by assumption) (by assumption) | exact keep_call (by assumption) ((Later.refl _).alloc _) | exact keep_init _)
          (first | (go_at_call 31; (with_reducible refine (HR.out _ (((hl1.trans hb).trans hl5).trans (by (have hk := (by assumption : _ ∧ Later w5 _).2); exact hk))).mono ?_); rintro e w6 ⟨A6, c6', rfl, y1, y2, y3, hb6⟩))
        rename_i hHw
        have hl6 := hHw.2
        clear hHw
        have HS := Lib.hid (fun W (hW : Later w6 W) => ref30_Same A5 A6 c5' c6' op op W (by omega) ((z3.later hl6).later hW) (y3.later hW))
        rw [samePs_refl] at HS
        go_wp2_with (first | (go_at_call 32; (with_reducible refine (HS.out _ (Later.refl _)).mono ?_); rintro e w7 ⟨rfl, hb7⟩))
        go_roundw
        case rel => exact ⟨k + 1, by omega, by go_num, hb.trans (hl5.trans (hl6.trans hb7))⟩
        case measure => simp [intOf]; omega
      · have HQ := Lib.hid (fun W (hW : Later w W) => HAn.out o W hW hpo)
        have HR := Lib.hid (fun W (hW : Later w W) => HBn.out o W hW hpo)
        clear hpo
        generalize (polyR sh o).2 = oe at *
        unfold Pu.agg at HQ HR
        obtain ⟨osh, ofl, oq, ox, oy⟩ := o
        simp only [] at e0 e1 e2 e3 e4 r0 r1 r2 r3 r4 HQ HR
        go_wp2
        go_region_held3 (fun w' : World => (∀ a : Addr, (wr.cell? a).isSome = true → w'.cell? a = wr.cell? a) ∧ Later wr w') (first | assumption | exact keep_call (by assumption) (by assumption) | exact keep_call (by assumption) ((Later.refl _).alloc _) | exact keep_init _)
          (first | (go_at_call 30; (with_reducible refine (HQ.out _ ((hl1.trans hb).trans (by (have hk := (by assumption : _ ∧ Later wr _).2); exact hk))).mono ?_); rintro e w5 ⟨rfl, hb5⟩))
        rename_i hHw
        have hl5 := hHw.2
        clear hHw
        have g4 := hl5.cell f4
        have g5 := hl5.cell f5
        have s0 := hl5.cell r0
        have s1 := hl5.cell r1
        have s2 := hl5.cell r2
        have s3 := hl5.cell r3
        have s4 := hl5.cell r4
        have hbz5 : b5 < w5.heap.size := World.block_lt_of_cell? _ _ s0
        have zr5 : N < w5.heap.size := World.block_lt_of_cell? _ _ g4
        clear f4 f5 r0 r1 r2 r3 r4 hbz zr
        go_wp2
        go_region_held3 (fun w' : World => (∀ a : Addr, (w5.cell? a).isSome = true → w'.cell? a = w5.cell? a) ∧ Later w5 w') (first | assumption | exact keep_call (by assumption) (by assumption) | exact keep_call (by assumption) ((Later.refl _).alloc _) | exact keep_init _)
          (first | (go_at_call 31; (with_reducible refine (HR.out _ (((hl1.trans hb).trans hl5).trans (by (have hk := (by assumption : _ ∧ Later w5 _).2); exact hk))).mono ?_); rintro e w6 ⟨rfl, hb6⟩))
        rename_i hHw
        have hl6 := hHw.2
        clear hHw
        have HS := Lib.hid (fun W => ref30_Same none none 0 0 [] [] W (by simp) (pts_nil _ _) (pts_nil _ _))
        rw [samePs_refl] at HS
        simp only [List.length_nil] at HS
        go_wp2_with (first | (go_at_call 32; (with_reducible refine (HS.out _).mono ?_); rintro e w7 ⟨rfl, hb7⟩))
        go_roundw
        case rel => exact ⟨k + 1, by omega, by go_num, hb.trans (hl5.trans (hl6.trans hb7))⟩
        case measure => simp [intOf]; omega
    · go_wp2_with (first | (go_at_call 33; (with_reducible refine (HEa.out _ (hl1.trans hb)).mono ?_); rintro e w2 ⟨rfl, hb2⟩; have g4 := hb2.cell f4; have g5 := hb2.cell f5; have hl2 := (hl1.trans hb).trans hb2) | (go_at_call 34; (with_reducible refine (HEb.out _ hl2).mono ?_); rintro e w3 ⟨rfl, hb3⟩) | (go_at_call 29; refine (HX.out _).mono ?_; rintro e w4 ⟨rfl, hb4⟩))
      go_ret
      exact ⟨rfl, (by repeat' (with_reducible first | exact Later.refl _ | assumption | refine Later.drew ?_ | refine Later.drewN ?_ _ | refine Later.alloc ?_ _ | refine Later.put ?_ (by omega) _ | refine Later.trans ?_ (by assumption)))⟩
theorem law30_PlacePolys (hex : ∀ W, Calls Try.prog 29 #[] W (Ret (.bool true) W)) (c : Cs) (w : World) (hc : CsOk w c) :
    Calls Try.prog 9 #[c.agg] w (Ret (.bool true) w) := by
  cases hf : fewCs c
  · exact law30_PlacePolys_few hex c w hc hf
  · exact law30_PlacePolys_in hex c w hc hf

end Go.Proofs.Ytolddfapanabbaa
