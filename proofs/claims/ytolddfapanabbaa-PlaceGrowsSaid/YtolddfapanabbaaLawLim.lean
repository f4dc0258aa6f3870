/-
  PlaceLimits, walked: more than MaxPlaces puts are too long, and no puts are valid on any bed.
-/
import Derived.Test.YtolddfapanabbaaCheckP
namespace Go.Proofs.Ytolddfapanabbaa
open Go.RowKit
set_option linter.unusedSimpArgs false
set_option linter.unusedVariables false

def zeroPu : Pu := ⟨0, false, 0, 0, 0⟩
theorem lim_plain (b : Bd) (n : Nat) : pcheckR b [] (List.replicate n zeroPu) = if 60 < n then 5 else if 0 < n then 3 else 0 := by
  unfold pcheckR
  rw [List.length_replicate]
  by_cases h : 60 < n
  · rw [if_pos h, if_pos h]
  · rw [if_neg h, if_neg h]
    cases n with
    | zero => rfl
    | succ n =>
      rw [if_pos (by omega), checkGo]
      have hp : polyR [] zeroPu = ([], 3) := by unfold polyR; rw [if_pos (.inr (.inl (by decide)))]
      have hf : ∀ puts, fitsR b [] puts zeroPu = 3 := by
        intro puts
        unfold fitsR
        split
        · rfl
        · rw [hp, if_pos (by decide)]
      have hg : (List.replicate (n + 1) zeroPu).getD 0 ⟨0, false, 0, 0, 0⟩ = zeroPu := by simp [List.replicate_succ]
      rw [hg, hf, if_pos (by decide)]
theorem made_at (n i j : Nat) (hi : i < n) (hj : j < 5) (z : Array Value) (hz : z.size = 5) : (madeCells z (n * 5))[i * 5 + j]? = z[j]? := by
  unfold madeCells
  have hlt : i * 5 + j < n * 5 := by omega
  rw [Array.getElem?_map, Array.getElem?_range, if_pos hlt, Option.map_some, hz]
  have : (i * 5 + j) % 5 = j := by omega
  rw [this, getElem!_pos z j (by omega), Array.getElem?_eq_getElem (by omega)]
theorem puts_made {W : World} {g n : Nat} (h : Blk W g 80 (madeCells #[.int .i64 0, .bool false, .int .i64 0, .int .i64 0, .int .i64 0] (n * 5))) : Puts W (some ⟨g, 0, none⟩) (List.replicate n zeroPu) := fun _ => ⟨g, 0, rfl, by
  intro i a ha
  have hi : i < n := by have := (List.getElem?_eq_some_iff.1 ha).1; simpa using this
  obtain rfl : a = zeroPu := by
    rw [List.getElem?_replicate, if_pos hi] at ha
    cases ha
    rfl
  refine ⟨fun j v hv => ?_, by unfold PuOk I64 zeroPu; decide⟩
  have hj : j < 5 := (List.getElem?_eq_some_iff.1 hv).1
  rw [Nat.zero_add, h.cell, made_at n i j hi hj _ rfl, ← hv, ← List.getElem?_toArray]
  rfl⟩
theorem info_put : (Try.prog.info? 80).map (fun i => (i.zero, i.size, i.bytes)) = some (some (.agg #[.int .i64 0, .bool false, .int .i64 0, .int .i64 0, .int .i64 0]), 5, 40) := by kernel_rfl
theorem shapes_nil (W : World) (A : Option Addr) : Shapes W A [] := fun h => by simp at h


set_option maxHeartbeats 4000000 in
set_option maxRecDepth 100000 in
theorem law30_PlaceLimits (hex : ∀ W, Calls Try.prog 29 #[] W (Ret (.bool true) W)) (b : Bd) (n : Nat) (w : World) (hn : n ≤ 255) :
    Calls Try.prog 11 #[b.agg, .int .u8 n] w (Ret (.bool true) w) := by
  have HX := Lib.hid hex
  obtain ⟨i0, hi, hz0, hz1, hz2⟩ := info_parts info_put
  have hmk := fun W => run_make_rows (P := Try.prog) 70 80 i0 _ Try.underlying70 hi hz0 n (by rw [hz2]; omega) (by omega) W
  rw [hz1] at hmk
  clear hex hi hz0 hz1 hz2
  have hC : ∀ W' g, Later w W' → Blk W' g 80 (madeCells (Value.agg #[.int .i64 0, .bool false, .int .i64 0, .int .i64 0, .int .i64 0]).cells (n * 5)) →
      Calls Try.prog 37 #[b.agg, .slice none 0 0, .slice (some ⟨g, 0, none⟩) n n] W' (Ret (.int .i64 (if 60 < n then 5 else if 0 < n then 3 else 0)) W') := fun W' g hW hB => by
    have := place_Check b none (some ⟨g, 0, none⟩) 0 n [] (List.replicate n zeroPu) W' (shapes_nil _ _) (by simp) (fun s hs => by cases hs) (puts_made hB) (by simp)
    rw [lim_plain, List.length_replicate] at this
    exact this
  generalize madeCells (Value.agg #[.int .i64 0, .bool false, .int .i64 0, .int .i64 0, .int .i64 0]).cells (n * 5) = Z at *
  unfold Bd.agg at hC ⊢
  obtain ⟨bl, bw, rx, ry⟩ := b
  simp only [] at hC
  by_cases h1 : 60 < n
  · rw [if_pos h1] at hC
    have d1 : decide ((60 : Int) < (n : Int)) = true := by simp; omega
    have HC := Lib.hid hC
    clear hC
    go_enter Try.func11, Try.ntmps11
    go_wp2
    refine name_world (fun W hW => ?_)
    have hl : Later w W := by rw [hW]; exact (by repeat' (with_reducible first | exact Later.refl _ | assumption | refine Later.drew ?_ | refine Later.drewN ?_ _ | refine Later.alloc ?_ _ | refine Later.put ?_ (by omega) _ | refine Later.trans ?_ (by assumption)))
    have B0 : Blk W w.heap.size 68 #[.int .i64 bl, .int .i64 bw, .int .i64 rx, .int .i64 ry] := by rw [hW]; exact (by repeat' (with_reducible first | assumption | (refine Blk.newAt ?_; simp; done) | refine Blk.alloc ?_ _ | refine Blk.drew ?_ | refine Blk.drewN ?_ _ | refine Blk.later ?_ (by assumption)))
    have c0 : W.cell? ⟨w.heap.size, 0, none⟩ = some (.int .i64 bl) := B0.cell 0
    have c1 : W.cell? ⟨w.heap.size, 1, none⟩ = some (.int .i64 bw) := B0.cell 1
    have c2 : W.cell? ⟨w.heap.size, 2, none⟩ = some (.int .i64 rx) := B0.cell 2
    have c3 : W.cell? ⟨w.heap.size, 3, none⟩ = some (.int .i64 ry) := B0.cell 3
    clear hW B0
    have hwr : IntKind.i64.wrap (n : Int) = (n : Int) := IntWalk.i64_in _ (by omega)
    go_region_held3 (fun w' : World => (∀ a : Addr, (W.cell? a).isSome = true → w'.cell? a = W.cell? a) ∧ Later W w') (first | assumption | exact keep_call (by assumption) (by assumption) | exact keep_call (by assumption) ((Later.refl _).alloc _) | exact keep_init _)
      (first | (go_at_call 37; (with_reducible refine (HC.out _ _ (hl.trans (by assumption : _ ∧ Later W _).2) (by repeat' (with_reducible first | assumption | (refine Blk.newAt ?_; simp; done) | refine Blk.alloc ?_ _ | refine Blk.drew ?_ | refine Blk.drewN ?_ _ | refine Blk.later ?_ (by assumption)))).mono ?_); rintro e w5 ⟨rfl, hb5⟩) | (go_at_call 29; (with_reducible refine (HX.out _).mono ?_); rintro e w6 ⟨rfl, hb6⟩))
    all_goals
      rename_i hHw
      go_wp2
      go_ret
      exact ⟨rfl, hl.trans hHw.2⟩
  · rw [if_neg h1] at hC
    have d1 : decide ((60 : Int) < (n : Int)) = false := by simp; omega
    by_cases h2 : 0 < n
    · rw [if_pos h2] at hC
      have HC := Lib.hid hC
      clear hC
      go_enter Try.func11, Try.ntmps11
      go_wp2
      refine name_world (fun W hW => ?_)
      have hl : Later w W := by rw [hW]; exact (by repeat' (with_reducible first | exact Later.refl _ | assumption | refine Later.drew ?_ | refine Later.drewN ?_ _ | refine Later.alloc ?_ _ | refine Later.put ?_ (by omega) _ | refine Later.trans ?_ (by assumption)))
      have B0 : Blk W w.heap.size 68 #[.int .i64 bl, .int .i64 bw, .int .i64 rx, .int .i64 ry] := by rw [hW]; exact (by repeat' (with_reducible first | assumption | (refine Blk.newAt ?_; simp; done) | refine Blk.alloc ?_ _ | refine Blk.drew ?_ | refine Blk.drewN ?_ _ | refine Blk.later ?_ (by assumption)))
      have c0 : W.cell? ⟨w.heap.size, 0, none⟩ = some (.int .i64 bl) := B0.cell 0
      have c1 : W.cell? ⟨w.heap.size, 1, none⟩ = some (.int .i64 bw) := B0.cell 1
      have c2 : W.cell? ⟨w.heap.size, 2, none⟩ = some (.int .i64 rx) := B0.cell 2
      have c3 : W.cell? ⟨w.heap.size, 3, none⟩ = some (.int .i64 ry) := B0.cell 3
      clear hW B0
      have hwr : IntKind.i64.wrap (n : Int) = (n : Int) := IntWalk.i64_in _ (by omega)
      go_region_held3 (fun w' : World => (∀ a : Addr, (W.cell? a).isSome = true → w'.cell? a = W.cell? a) ∧ Later W w') (first | assumption | exact keep_call (by assumption) (by assumption) | exact keep_call (by assumption) ((Later.refl _).alloc _) | exact keep_init _)
        (first | (go_at_call 37; (with_reducible refine (HC.out _ _ (hl.trans (by assumption : _ ∧ Later W _).2) (by repeat' (with_reducible first | assumption | (refine Blk.newAt ?_; simp; done) | refine Blk.alloc ?_ _ | refine Blk.drew ?_ | refine Blk.drewN ?_ _ | refine Blk.later ?_ (by assumption)))).mono ?_); rintro e w5 ⟨rfl, hb5⟩) | (go_at_call 29; (with_reducible refine (HX.out _).mono ?_); rintro e w6 ⟨rfl, hb6⟩))
      all_goals
        rename_i hHw
        go_wp2
        go_ret
        exact ⟨rfl, hl.trans hHw.2⟩
    · rw [if_neg h2] at hC
      have HC := Lib.hid hC
      clear hC
      go_enter Try.func11, Try.ntmps11
      go_wp2
      refine name_world (fun W hW => ?_)
      have hl : Later w W := by rw [hW]; exact (by repeat' (with_reducible first | exact Later.refl _ | assumption | refine Later.drew ?_ | refine Later.drewN ?_ _ | refine Later.alloc ?_ _ | refine Later.put ?_ (by omega) _ | refine Later.trans ?_ (by assumption)))
      have B0 : Blk W w.heap.size 68 #[.int .i64 bl, .int .i64 bw, .int .i64 rx, .int .i64 ry] := by rw [hW]; exact (by repeat' (with_reducible first | assumption | (refine Blk.newAt ?_; simp; done) | refine Blk.alloc ?_ _ | refine Blk.drew ?_ | refine Blk.drewN ?_ _ | refine Blk.later ?_ (by assumption)))
      have c0 : W.cell? ⟨w.heap.size, 0, none⟩ = some (.int .i64 bl) := B0.cell 0
      have c1 : W.cell? ⟨w.heap.size, 1, none⟩ = some (.int .i64 bw) := B0.cell 1
      have c2 : W.cell? ⟨w.heap.size, 2, none⟩ = some (.int .i64 rx) := B0.cell 2
      have c3 : W.cell? ⟨w.heap.size, 3, none⟩ = some (.int .i64 ry) := B0.cell 3
      clear hW B0
      have hwr : IntKind.i64.wrap (n : Int) = (n : Int) := IntWalk.i64_in _ (by omega)
      go_region_held3 (fun w' : World => (∀ a : Addr, (W.cell? a).isSome = true → w'.cell? a = W.cell? a) ∧ Later W w') (first | assumption | exact keep_call (by assumption) (by assumption) | exact keep_call (by assumption) ((Later.refl _).alloc _) | exact keep_init _)
        (first | (go_at_call 37; (with_reducible refine (HC.out _ _ (hl.trans (by assumption : _ ∧ Later W _).2) (by repeat' (with_reducible first | assumption | (refine Blk.newAt ?_; simp; done) | refine Blk.alloc ?_ _ | refine Blk.drew ?_ | refine Blk.drewN ?_ _ | refine Blk.later ?_ (by assumption)))).mono ?_); rintro e w5 ⟨rfl, hb5⟩) | (go_at_call 29; (with_reducible refine (HX.out _).mono ?_); rintro e w6 ⟨rfl, hb6⟩))
      all_goals
        rename_i hHw
        go_wp2
        go_ret
        exact ⟨rfl, hl.trans hHw.2⟩

end Go.Proofs.Ytolddfapanabbaa
