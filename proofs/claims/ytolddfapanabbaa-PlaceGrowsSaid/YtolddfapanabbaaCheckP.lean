/-
  The walk of place.Check.
-/
import Derived.Test.YtolddfapanabbaaFits
namespace Go.Proofs.Ytolddfapanabbaa
open Go.RowKit
set_option linter.unusedSimpArgs false
set_option linter.unusedVariables false

theorem check_bad {b : Bd} {l : List Sh} {puts : List Pu} {i : Nat} (hi : i < puts.length) (h : fitsR b l (puts.take i) puts[i] ≠ 0) : checkGo b l puts (puts.length - i) i = fitsR b l (puts.take i) puts[i] := by
  obtain ⟨f, hf⟩ : ∃ f, puts.length - i = f + 1 := ⟨puts.length - i - 1, by omega⟩
  have hg : puts.getD i ⟨0, false, 0, 0, 0⟩ = puts[i] := by simp [hi]
  rw [hf, checkGo, hg, if_pos h]
theorem check_good {b : Bd} {l : List Sh} {puts : List Pu} {i : Nat} (hi : i < puts.length) (h : fitsR b l (puts.take i) puts[i] = 0) : checkGo b l puts (puts.length - i) i = checkGo b l puts (puts.length - (i + 1)) (i + 1) := by
  obtain ⟨f, hf⟩ : ∃ f, puts.length - i = f + 1 := ⟨puts.length - i - 1, by omega⟩
  have hg : puts.getD i ⟨0, false, 0, 0, 0⟩ = puts[i] := by simp [hi]
  rw [hf, checkGo, hg, if_neg (by simpa using h), show puts.length - (i + 1) = f by omega]
theorem Puts.take {w : World} {A : Option Addr} {l : List Pu} (h : Puts w A l) (n : Nat) : Puts w A (l.take n) := by
  intro hn
  obtain ⟨b, o, e, hc⟩ := h (by rw [List.length_take] at hn; omega)
  exact ⟨b, o, e, fun i a ha => hc i a (by rw [List.getElem?_take] at ha; split at ha; exact ha; cases ha)⟩

section
variable (b : Bd) (C P : Option Addr) (cc pc : Nat) (l : List Sh) (puts : List Pu) (w : World)
set_option maxHeartbeats 2000000 in
theorem place_Check_long (h : 60 < puts.length) : Calls Try.prog 37 #[b.agg, .slice C l.length cc, .slice P puts.length pc] w (Ret (.int .i64 5) w) := by
  unfold Bd.agg
  obtain ⟨bl, bw, rx, ry⟩ := b
  have d : decide ((60 : Int) < (puts.length : Int)) = true := by simp; omega
  go_enter Try.func37, Try.ntmps37
  go_wp2
  go_ret
  exact ⟨rfl, (by repeat' (with_reducible first | exact Later.refl _ | assumption | refine Later.drew ?_ | refine Later.drewN ?_ _ | refine Later.alloc ?_ _ | refine Later.put ?_ (by omega) _ | refine Later.trans ?_ (by assumption)))⟩
set_option maxHeartbeats 4000000 in
theorem place_Check_in (hs : Shapes w C l) (hl : l.length ≤ 65536) (hlen : ∀ s ∈ l, s.ps.length ≤ 1099511627776) (hpu : Puts w P puts) (hpc : puts.length ≤ pc) (h : puts.length ≤ 60) :
    Calls Try.prog 37 #[b.agg, .slice C l.length cc, .slice P puts.length pc] w (Ret (.int .i64 (checkGo b l puts puts.length 0)) w) := by
  have HF := Lib.hid (fun (i : Nat) (p : Pu) W (hi : i ≤ puts.length) (hW : Later w W) => by
    have := place_Fits b C P cc pc l (puts.take i) p W (hs.later hW) hl hlen ((hpu.take i).later hW) (by rw [List.length_take]; omega)
    rw [show (puts.take i).length = i by rw [List.length_take]; omega] at this
    exact this)
  have d : decide ((60 : Int) < (puts.length : Int)) = false := by simp; omega
  have HG1 := Lib.hid (fun i (hi : i < puts.length) => check_bad (b := b) (l := l) hi)
  have HG2 := Lib.hid (fun i (hi : i < puts.length) => check_good (b := b) (l := l) hi)
  have hz0 : ∀ i, checkGo b l puts 0 i = 0 := fun i => by rw [checkGo]
  have HZ := Lib.hid hz0
  clear hz0
  unfold Bd.agg at HF ⊢
  have HbF := Lib.hid (rfl : fitsR b l = fitsR b l)
  generalize hfit : fitsR b l = fit at *
  generalize hcg : checkGo b l puts = cg at *
  obtain ⟨bl, bw, rx, ry⟩ := b
  clear hfit hcg HbF
  simp only [] at HF
  go_enter Try.func37, Try.ntmps37
  go_wp2
  refine name_world (fun W hW => ?_)
  have hlW : Later w W := by rw [hW]; exact (by repeat' (with_reducible first | exact Later.refl _ | assumption | refine Later.drew ?_ | refine Later.drewN ?_ _ | refine Later.alloc ?_ _ | refine Later.put ?_ (by omega) _ | refine Later.trans ?_ (by assumption)))
  have B0 : Blk W w.heap.size 68 #[.int .i64 bl, .int .i64 bw, .int .i64 rx, .int .i64 ry] := by rw [hW]; exact (by repeat' (with_reducible first | assumption | (refine Blk.newAt ?_; simp; done) | refine Blk.alloc ?_ _ | refine Blk.drew ?_ | refine Blk.drewN ?_ _ | refine Blk.later ?_ (by assumption)))
  clear hW
  generalize w.heap.size = N at *
  go_loopw [6, 15] (fun _ iv wr => ∃ i : Nat, i ≤ puts.length ∧ iv = .int .i64 i ∧ cg puts.length 0 = cg (puts.length - i) i ∧ Later W wr) (fun _ iv _ => puts.length - (intOf iv).toNat)
  case atStart => exact ⟨0, by omega, rfl, rfl, Later.refl _⟩
  case round =>
    obtain ⟨i, hi, rfl, he, hb⟩ := hrel
    have He := Lib.hid he
    clear he
    have hlw := hlW.trans hb
    by_cases hlt : i < puts.length
    · obtain ⟨b5, o5, rfl, e0, e1, e2, e3, e4, hok5⟩ := (hpu.later hlw).at_ hlt
      have hbz : b5 < wr.heap.size := World.block_lt_of_cell? _ _ e0
      have c0 : wr.cell? ⟨N, 0, none⟩ = some (.int .i64 bl) := hb.cell (B0.cell 0)
      have c1 : wr.cell? ⟨N, 1, none⟩ = some (.int .i64 bw) := hb.cell (B0.cell 1)
      have c2 : wr.cell? ⟨N, 2, none⟩ = some (.int .i64 rx) := hb.cell (B0.cell 2)
      have c3 : wr.cell? ⟨N, 3, none⟩ = some (.int .i64 ry) := hb.cell (B0.cell 3)
      have zN : N < wr.heap.size := World.block_lt_of_cell? _ _ c0
      have HB1 := Lib.hid (HG1.out i hlt)
      have HB2 := Lib.hid (HG2.out i hlt)
      have HF1 := Lib.hid (fun W (hW : Later w W) => HF.out i puts[i] W hi hW)
      generalize puts[i] = o at *
      generalize fit (puts.take i) o = fv at *
      unfold Pu.agg at HF1
      obtain ⟨osh, ofl, oq, ox, oy⟩ := o
      simp only [] at e0 e1 e2 e3 e4 HF1
      have hi0 : (0 : Int) ≤ (i : Int) := by omega
      have hi1 : (i : Int) ≤ (puts.length : Int) := by omega
      have hi2 : (i : Int) ≤ (pc : Int) := by omega
      have hi3 : (i : Int) < (puts.length : Int) := by omega
      go_wp2
      refine name_world (fun W2 hW2 => ?_)
      have hl2 : Later wr W2 := by rw [hW2]; exact (by repeat' (with_reducible first | exact Later.refl _ | assumption | refine Later.drew ?_ | refine Later.drewN ?_ _ | refine Later.alloc ?_ _ | refine Later.put ?_ (by omega) _ | refine Later.trans ?_ (by assumption)))
      have E0 : Blk W2 wr.heap.size 80 #[.int .i64 osh, .bool ofl, .int .i64 oq, .int .i64 ox, .int .i64 oy] := by rw [hW2]; exact (by repeat' (with_reducible first | assumption | (refine Blk.newAt ?_; simp; done) | refine Blk.alloc ?_ _ | refine Blk.drew ?_ | refine Blk.drewN ?_ _ | refine Blk.later ?_ (by assumption)))
      have m0 : W2.cell? ⟨wr.heap.size, 0, none⟩ = some (.int .i64 osh) := E0.cell 0
      have m1 : W2.cell? ⟨wr.heap.size, 1, none⟩ = some (.bool ofl) := E0.cell 1
      have m2 : W2.cell? ⟨wr.heap.size, 2, none⟩ = some (.int .i64 oq) := E0.cell 2
      have m3 : W2.cell? ⟨wr.heap.size, 3, none⟩ = some (.int .i64 ox) := E0.cell 3
      have m4 : W2.cell? ⟨wr.heap.size, 4, none⟩ = some (.int .i64 oy) := E0.cell 4
      have n0 := hl2.cell c0
      have n1 := hl2.cell c1
      have n2 := hl2.cell c2
      have n3 := hl2.cell c3
      clear hW2 e0 e1 e2 e3 e4 c0 c1 c2 c3
      rcases Classical.em (fv = 0) with h0 | h0
      · subst h0
        go_region_held3 (fun w' : World => (∀ a : Addr, (W2.cell? a).isSome = true → w'.cell? a = W2.cell? a) ∧ Later W2 w') (first | assumption | exact keep_call (by assumption) (by assumption) | exact keep_call (by assumption) ((Later.refl _).alloc _) | exact keep_init _)
          (first | (go_at_call 35; (with_reducible refine (HF1.out _ ((hlw.trans hl2).trans (by assumption : _ ∧ Later W2 _).2)).mono ?_); rintro e w5 ⟨rfl, hb5⟩))
        rename_i hHw
        go_wp2
        go_roundw
        case rel => exact ⟨i + 1, by omega, by go_num, by rw [He.out]; exact HB2.out (by trivial), hb.trans (hl2.trans hHw.2)⟩
        case measure => simp [intOf]; omega
      · have dd : (fv != 0) = true := by simpa using h0
        go_region_held3 (fun w' : World => (∀ a : Addr, (W2.cell? a).isSome = true → w'.cell? a = W2.cell? a) ∧ Later W2 w') (first | assumption | exact keep_call (by assumption) (by assumption) | exact keep_call (by assumption) ((Later.refl _).alloc _) | exact keep_init _)
          (first | (go_at_call 35; (with_reducible refine (HF1.out _ ((hlw.trans hl2).trans (by assumption : _ ∧ Later W2 _).2)).mono ?_); rintro e w5 ⟨rfl, hb5⟩))
        rename_i hHw
        go_wp2
        go_ret
        exact ⟨ret_int (by rw [He.out]; exact (HB1.out h0).symm), hlw.trans (hl2.trans hHw.2)⟩
    · go_wp2
      go_ret
      exact ⟨ret_int (by rw [He.out, show puts.length - i = 0 by omega]; exact (HZ.out i).symm), hlw⟩
theorem place_Check (hs : Shapes w C l) (hl : l.length ≤ 65536) (hlen : ∀ s ∈ l, s.ps.length ≤ 1099511627776) (hpu : Puts w P puts) (hpc : puts.length ≤ pc) :
    Calls Try.prog 37 #[b.agg, .slice C l.length cc, .slice P puts.length pc] w (Ret (.int .i64 (pcheckR b l puts)) w) := by
  unfold pcheckR
  by_cases h : 60 < puts.length
  · rw [if_pos h]
    exact place_Check_long b C P cc pc l puts w h
  · rw [if_neg h]
    exact place_Check_in b C P cc pc l puts w hs hl hlen hpu hpc (by omega)
end

end Go.Proofs.Ytolddfapanabbaa
