/-
  The reference of layer 30: Check returns what the program's Check returns.
-/
import Derived.Test.YtolddfapanabbaaGreatRefX
namespace Go.Proofs.YtolddfapanabbaaGreat
open Go.RowKit
set_option linter.unusedSimpArgs false
set_option linter.unusedVariables false

section
variable (b : Bd) (C P : Option Addr) (cc pc : Nat) (l : List Sh) (puts : List Pu) (w : World)
set_option maxHeartbeats 2000000 in
theorem ref30_Check_long (h : 60 < puts.length) : Calls Tryz.prog 7 #[b.agg, .slice C l.length cc, .slice P puts.length pc] w (Ret (.int .i64 5) w) := by
  unfold Bd.agg
  obtain ⟨bl, bw, rx, ry⟩ := b
  have d : decide ((60 : Int) < (puts.length : Int)) = true := by simp; omega
  go_enter Tryz.func7, Tryz.ntmps7
  go_wp2
  go_ret
  exact ⟨rfl, (by repeat' (with_reducible first | exact Later.refl _ | assumption | refine Later.drew ?_ | refine Later.drewN ?_ _ | refine Later.alloc ?_ _ | refine Later.put ?_ (by omega) _ | refine Later.trans ?_ (by assumption)))⟩
set_option maxHeartbeats 4000000 in
theorem ref30_Check_in (hs : Shapes w C l) (hl : l.length ≤ 65536) (hlen : ∀ s ∈ l, s.ps.length ≤ 1099511627776) (hpu : Puts w P puts) (hpc : puts.length ≤ pc) (h : puts.length ≤ 60) :
    Calls Tryz.prog 7 #[b.agg, .slice C l.length cc, .slice P puts.length pc] w (Ret (.int .i64 (checkGo b l puts puts.length 0)) w) := by
  have HF := Lib.hid (fun (i : Nat) (p : Pu) W (hi : i ≤ puts.length) (hW : Later w W) => by
    have := ref30_Fits b C P cc pc l (puts.take i) p W (hs.later hW) hl hlen ((hpu.take i).later hW) (by rw [List.length_take]; omega)
    rw [show (puts.take i).length = i by rw [List.length_take]; omega] at this
    exact this)
  have d : decide ((60 : Int) < (puts.length : Int)) = false := by simp; omega
  have HG1 := Lib.hid (fun i (hi : i < puts.length) => check_bad (b := b) (l := l) hi)
  have HG2 := Lib.hid (fun i (hi : i < puts.length) => check_good (b := b) (l := l) hi)
  have hz0 : ∀ i, checkGo b l puts 0 i = 0 := fun i => by rw [checkGo]
  have HZ := Lib.hid hz0
  clear hz0
  unfold Bd.agg at HF ⊢
  have HbF := Lib.hid (rfl : fitsR b l = fitsR b l)
  generalize hfit : fitsR b l = fit at *
  generalize hcg : checkGo b l puts = cg at *
  obtain ⟨bl, bw, rx, ry⟩ := b
  clear hfit hcg HbF
  simp only [] at HF
  go_enter Tryz.func7, Tryz.ntmps7
  go_wp2
  refine name_world (fun W hW => ?_)
  have hlW : Later w W := by rw [hW]; exact (by repeat' (with_reducible first | exact Later.refl _ | assumption | refine Later.drew ?_ | refine Later.drewN ?_ _ | refine Later.alloc ?_ _ | refine Later.put ?_ (by omega) _ | refine Later.trans ?_ (by assumption)))
  have B0 : Blk W w.heap.size 25 #[.int .i64 bl, .int .i64 bw, .int .i64 rx, .int .i64 ry] := by rw [hW]; exact (by repeat' (with_reducible first | assumption | (refine Blk.newAt ?_; simp; done) | refine Blk.alloc ?_ _ | refine Blk.drew ?_ | refine Blk.drewN ?_ _ | refine Blk.later ?_ (by assumption)))
  clear hW
  generalize w.heap.size = N at *
  go_loopw [6, 7] (fun _ iv wr => ∃ i : Nat, i ≤ puts.length ∧ iv = .int .i64 i ∧ cg puts.length 0 = cg (puts.length - i) i ∧ Later W wr) (fun _ iv _ => puts.length - (intOf iv).toNat)
  case atStart => exact ⟨0, by omega, rfl, rfl, Later.refl _⟩
  case round =>
    obtain ⟨i, hi, rfl, he, hb⟩ := hrel
    have He := Lib.hid he
    clear he
    have hlw := hlW.trans hb
    by_cases hlt : i < puts.length
    · obtain ⟨b5, o5, rfl, e0, e1, e2, e3, e4, hok5⟩ := (hpu.later hlw).at_ hlt
      have hbz : b5 < wr.heap.size := World.block_lt_of_cell? _ _ e0
      have c0 : wr.cell? ⟨N, 0, none⟩ = some (.int .i64 bl) := hb.cell (B0.cell 0)
      have c1 : wr.cell? ⟨N, 1, none⟩ = some (.int .i64 bw) := hb.cell (B0.cell 1)
      have c2 : wr.cell? ⟨N, 2, none⟩ = some (.int .i64 rx) := hb.cell (B0.cell 2)
      have c3 : wr.cell? ⟨N, 3, none⟩ = some (.int .i64 ry) := hb.cell (B0.cell 3)
      have zN : N < wr.heap.size := World.block_lt_of_cell? _ _ c0
      have HB1 := Lib.hid (HG1.out i hlt)
      have HB2 := Lib.hid (HG2.out i hlt)
      have HF1 := Lib.hid (fun W (hW : Later w W) => HF.out i puts[i] W hi hW)
      generalize puts[i] = o at *
      generalize fit (puts.take i) o = fv at *
      unfold Pu.agg at HF1
      obtain ⟨osh, ofl, oq, ox, oy⟩ := o
      simp only [] at e0 e1 e2 e3 e4 HF1
      have hi0 : (0 : Int) ≤ (i : Int) := by omega
      have hi1 : (i : Int) ≤ (puts.length : Int) := by omega
      have hi2 : (i : Int) ≤ (pc : Int) := by omega
      have hi3 : (i : Int) < (puts.length : Int) := by omega
      have hi4 : (i : Int).toNat = i := by omega
      rcases Classical.em (fv = 0) with h0 | h0
      · subst h0
        go_wp2
        go_region_held3 (fun w' : World => (∀ a : Addr, (wr.cell? a).isSome = true → w'.cell? a = wr.cell? a) ∧ Later wr w') (first | assumption | exact keep_call (by assumption) (by assumption) | exact keep_call (by assumption) ((Later.refl _).alloc _) | exact keep_init _)
          (first | (go_at_call 14; (with_reducible refine (HF1.out _ (hlw.trans (by assumption : _ ∧ Later wr _).2)).mono ?_); rintro e w5 ⟨rfl, hb5⟩))
        rename_i hHw
        go_wp2
        go_roundw
        case rel => exact ⟨i + 1, by omega, by go_num, by rw [He.out]; exact HB2.out (by trivial), hb.trans hHw.2⟩
        case measure => simp [intOf]; omega
      · have dd : (fv != 0) = true := by simpa using h0
        go_wp2
        go_region_held3 (fun w' : World => (∀ a : Addr, (wr.cell? a).isSome = true → w'.cell? a = wr.cell? a) ∧ Later wr w') (first | assumption | exact keep_call (by assumption) (by assumption) | exact keep_call (by assumption) ((Later.refl _).alloc _) | exact keep_init _)
          (first | (go_at_call 14; (with_reducible refine (HF1.out _ (hlw.trans (by assumption : _ ∧ Later wr _).2)).mono ?_); rintro e w5 ⟨rfl, hb5⟩))
        rename_i hHw
        go_wp2
        go_ret
        exact ⟨ret_int (by rw [He.out]; exact (HB1.out h0).symm), hlw.trans hHw.2⟩
    · go_wp2
      go_ret
      exact ⟨ret_int (by rw [He.out, show puts.length - i = 0 by omega]; exact (HZ.out i).symm), hlw⟩
theorem ref30_Check (hs : Shapes w C l) (hl : l.length ≤ 65536) (hlen : ∀ s ∈ l, s.ps.length ≤ 1099511627776) (hpu : Puts w P puts) (hpc : puts.length ≤ pc) :
    Calls Tryz.prog 7 #[b.agg, .slice C l.length cc, .slice P puts.length pc] w (Ret (.int .i64 (pcheckR b l puts)) w) := by
  unfold pcheckR
  by_cases h : 60 < puts.length
  · rw [if_pos h]
    exact ref30_Check_long b C P cc pc l puts w h
  · rw [if_neg h]
    exact ref30_Check_in b C P cc pc l puts w hs hl hlen hpu hpc (by omega)
end

end Go.Proofs.YtolddfapanabbaaGreat
