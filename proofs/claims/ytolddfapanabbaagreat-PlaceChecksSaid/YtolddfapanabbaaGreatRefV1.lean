/-
  The reference of layer 12: Poly.
-/
import Derived.Test.YtolddfapanabbaaGreatRefU
import Derived.Test.YtolddfapanabbaaGreatFits
namespace Go.Proofs.YtolddfapanabbaaGreat
open Go.RowKit
set_option linter.unusedSimpArgs false
set_option linter.unusedVariables false

theorem turn_at {f : Bool} {q : Int} {ps : List Pt} {k : Nat} (hk : k < ps.length) : ∃ j, (j = if f = true then ps.length - 1 - k else k) ∧ ∃ hj : j < ps.length, (turnPs f q ps).take (k + 1) = (turnPs f q ps).take k ++ [applyP f q ps[j]] := by
  have hl := turnPs_len f q ps
  refine ⟨if f = true then ps.length - 1 - k else k, rfl, by split <;> omega, ?_⟩
  rw [List.take_succ_eq_append_getElem (by omega)]
  congr 2
  cases f
  · simp [turnPs]
  · simp [turnPs]

set_option maxRecDepth 100000 in
set_option maxHeartbeats 4000000 in
theorem ref12_Poly (f : Bool) (q : Int) (A : Option Addr) (c : Nat) (ps : List Pt) (w : World) (hn : ps.length ≤ 4096) (hp : Pts w A ps) (hps : ∀ p ∈ ps, NearP 1048576 p) :
    Calls Tryz.prog 39 #[.agg #[.bool f, .int .i64 q], .slice A ps.length c] w (RetPts (turnPs f q ps) w) := by
  go_enter Tryz.func39, Tryz.ntmps39
  go_wp2
  refine name_world (fun W hW => ?_)
  have hl : Later w W := by rw [hW]; exact (by repeat' (with_reducible first | exact Later.refl _ | assumption | refine Later.drew ?_ | refine Later.drewN ?_ _ | refine Later.alloc ?_ _ | refine Later.put ?_ (by omega) _ | refine Later.trans ?_ (by assumption)))
  have B0 : Blk W w.heap.size 41 #[.bool f, .int .i64 q] := by rw [hW]; exact (by repeat' (with_reducible first | assumption | (refine Blk.newAt ?_; simp; done) | refine Blk.alloc ?_ _ | refine Blk.drew ?_ | refine Blk.drewN ?_ _ | refine Blk.later ?_ (by assumption)))
  clear hW
  have hpW := hp.later hl
  have c0 : W.cell? ⟨w.heap.size, 0, none⟩ = some (.bool f) := B0.cell 0
  have c1 : W.cell? ⟨w.heap.size, 1, none⟩ = some (.int .i64 q) := B0.cell 1
  have zN := B0.lt
  generalize w.heap.size = N at *
  have hlen := turnPs_len f q ps
  go_loopw [5, 6] (fun v iv wr => ∃ k : Nat, k ≤ ps.length ∧ iv = .int .i64 k ∧ Later W wr ∧ OwnR wr W.heap.size 37 2 pt2 v ((turnPs f q ps).take k)) (fun _ iv _ => ps.length - (intOf iv).toNat)
  case atStart => exact ⟨0, by omega, rfl, Later.refl _, World.ownsRow_nil _ _ _ _⟩
  case round =>
    obtain ⟨k, hk, rfl, hb, hown⟩ := hrel
    by_cases hlt : k < ps.length
    · obtain ⟨j, hje, hj, ht⟩ := turn_at (f := f) (q := q) hlt
      obtain ⟨b, o, rfl, e1, e2⟩ := hpW.at_ hj
      have hbz : b < W.heap.size := World.block_lt_of_cell? _ _ e1
      have hz := hb.size
      have hpk := hps _ (List.getElem_mem hj)
      have Ht := Lib.hid ht
      have hll : ((turnPs f q ps).take k).length ≤ 4096 := by simp; omega
      clear ht
      generalize ps[j] = p at *
      obtain ⟨px, py⟩ := p
      simp only [] at e1 e2
      have HA := Lib.hid (fun W => ref12_Apply f q px py W hpk)
      generalize applyP f q ⟨px, py⟩ = ap at *
      obtain ⟨ax, ay⟩ := ap
      unfold ptV at HA
      simp only [] at HA
      generalize (turnPs f q ps).take k = acc at *
      have hk0 : (0 : Int) ≤ (k : Int) := by omega
      have hk1 : (k : Int) < (ps.length : Int) := by omega
      have hbd : Later W wr.drew := hb.drew
      have d0 : wr.cell? ⟨N, 0, none⟩ = some (.bool f) := hb.cell c0
      have y1 : IntKind.i64.wrap ((ps.length : Int) - 1) = (ps.length : Int) - 1 := IntWalk.i64_in _ (by omega)
      have y2 : IntKind.i64.wrap ((ps.length : Int) - 1 - (k : Int)) = (ps.length : Int) - 1 - (k : Int) := IntWalk.i64_in _ (by omega)
      have zr : N < wr.heap.size := by omega
      cases f
      · rw [if_neg (by simp)] at hje
        have hje2 := hje.symm
        clear hje
        subst hje2
        go_wp2
        go_region_held3 (fun w' : World => (∀ a : Addr, (W.cell? a).isSome = true → w'.cell? a = W.cell? a) ∧ Later W w') (first | assumption | exact keep_call (by assumption) (by assumption) | exact keep_call (by assumption) ((Later.refl _).alloc _) | exact keep_init _ | exact ⟨Later.keeps (by assumption), by assumption⟩) ((first
          | (go_at_call 41; (with_reducible refine (HA.out _).mono ?_); rintro e w3 ⟨rfl, hb3⟩; have hl3 : Later wr w3 := (Later.refl wr).drew.trans hb3)
          | (have T1 : OwnR (w3.alloc (.cells #[.int .i64 ax, .int .i64 ay] 37)) W.heap.size 37 2 pt2 u5 acc := OwnR.alloc (OwnR.later hown hl3) _
             have T2 := SrcAt.blk (w := (w3.alloc (.cells #[.int .i64 ax, .int .i64 ay] 37))) (g := w3.heap.size) (t := 37) (cs := #[.int .i64 ax, .int .i64 ay]) (by repeat' (with_reducible first | assumption | (refine Blk.newAt ?_; simp; done) | refine Blk.alloc ?_ _ | refine Blk.drew ?_ | refine Blk.drewN ?_ _ | refine Blk.later ?_ (by assumption)))
             have T3 : W.heap.size ≤ (w3.alloc (.cells #[.int .i64 ax, .int .i64 ay] 37)).heap.size := by have := hl3.size; simp; omega
             have T4 : acc.length + [(⟨ax, ay⟩ : Pt)].length ≤ 65536 := by simp; omega
             refine step_append_rec slt_spot pt2_len pt2_one rfl (.tmp 22) (.tmp 29) rfl (base := W.heap.size) (l := acc) rfl T1 (A := some ⟨w3.heap.size, 0, none⟩) (c := 1) [⟨ax, ay⟩] rfl (by intro h; cases h) T2 T4 T3 ?_
             intro A4 c4' w4 ho4 hg4
             have hl4 : Later W w4 := Later.grown (Later.alloc (hb.trans hl3) _) hg4 (fun g hg => (World.ownsRow.lt hown g hg).1))))
        rename_i hHw
        simp only [List.length_append, List.length_singleton] at ho4
        go_wp2
        go_roundw
        case rel => exact ⟨k + 1, by omega, by go_num, hHw.2, by rw [Ht.out]; exact ho4⟩
        case measure => simp [intOf]; omega
      · rw [if_pos rfl] at hje
        have j0 : (0 : Int) ≤ (j : Int) := by omega
        have j1 : (j : Int) < (ps.length : Int) := by omega
        have j2 : (ps.length : Int) - 1 - (k : Int) = (j : Int) := by omega
        clear hje
        go_upto_region 8 with fail
        clear y1 y2 j2
        go_region_held3 (fun w' : World => (∀ a : Addr, (W.cell? a).isSome = true → w'.cell? a = W.cell? a) ∧ Later W w') (first | assumption | exact keep_call (by assumption) (by assumption) | exact keep_call (by assumption) ((Later.refl _).alloc _) | exact keep_init _ | exact ⟨Later.keeps (by assumption), by assumption⟩) ((first
          | (go_at_call 41; (with_reducible refine (HA.out _).mono ?_); rintro e w3 ⟨rfl, hb3⟩; have hl3 : Later wr w3 := (Later.refl wr).drew.trans hb3)
          | (have T1 : OwnR (w3.alloc (.cells #[.int .i64 ax, .int .i64 ay] 37)) W.heap.size 37 2 pt2 u5 acc := OwnR.alloc (OwnR.later hown hl3) _
             have T2 := SrcAt.blk (w := (w3.alloc (.cells #[.int .i64 ax, .int .i64 ay] 37))) (g := w3.heap.size) (t := 37) (cs := #[.int .i64 ax, .int .i64 ay]) (by repeat' (with_reducible first | assumption | (refine Blk.newAt ?_; simp; done) | refine Blk.alloc ?_ _ | refine Blk.drew ?_ | refine Blk.drewN ?_ _ | refine Blk.later ?_ (by assumption)))
             have T3 : W.heap.size ≤ (w3.alloc (.cells #[.int .i64 ax, .int .i64 ay] 37)).heap.size := by have := hl3.size; simp; omega
             have T4 : acc.length + [(⟨ax, ay⟩ : Pt)].length ≤ 65536 := by simp; omega
             refine step_append_rec slt_spot pt2_len pt2_one rfl (.tmp 22) (.tmp 29) rfl (base := W.heap.size) (l := acc) rfl T1 (A := some ⟨w3.heap.size, 0, none⟩) (c := 1) [⟨ax, ay⟩] rfl (by intro h; cases h) T2 T4 T3 ?_
             intro A4 c4' w4 ho4 hg4
             have hl4 : Later W w4 := Later.grown (Later.alloc (hb.trans hl3) _) hg4 (fun g hg => (World.ownsRow.lt hown g hg).1))))
        rename_i hHw
        simp only [List.length_append, List.length_singleton] at ho4
        go_wp2
        go_roundw
        case rel => exact ⟨k + 1, by omega, by go_num, hHw.2, by rw [Ht.out]; exact ho4⟩
        case measure => simp [intOf]; omega
    · rw [List.take_of_length_le (by omega)] at hown
      obtain ⟨A2, c2, rfl, h1, h2, h3⟩ := hown.pts
      go_wp2
      go_ret
      exact ⟨A2, c2, rfl, h1, h2, h3, hl.trans hb⟩

end Go.Proofs.YtolddfapanabbaaGreat
