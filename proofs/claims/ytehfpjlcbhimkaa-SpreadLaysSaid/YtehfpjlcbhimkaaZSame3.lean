/-
  garmentref33.Same: two markers with the same numbers and lists are the same.
-/
import Derived.Test.YtehfpjlcbhimkaaZSprH
namespace Go.Proofs.Ytehfpjlcbhimkaa
open Go.RowKit
set_option linter.unusedSimpArgs false
set_option linter.unusedVariables false

set_option maxHeartbeats 4000000 in
set_option maxRecDepth 100000 in
theorem ref33_Same_eq (A1 A2 B1 B2 : Option Addr) (c1 c2 d1 d2 : Nat) (len wd rx ry : Int) (sz : List Int) (pl : List Pc) (w : World) (h1 : Ints w A1 sz) (h2 : Ints w B1 sz) (h3 : Pcs w A2 pl) (h4 : Pcs w B2 pl) (hs : sz.length ≤ 65536) (hp : pl.length ≤ 65536) :
    Calls Try.prog 17 #[.agg #[.int .i64 len, .int .i64 wd, .int .i64 rx, .int .i64 ry, .slice A1 sz.length c1, .slice A2 pl.length c2], .agg #[.int .i64 len, .int .i64 wd, .int .i64 rx, .int .i64 ry, .slice B1 sz.length d1, .slice B2 pl.length d2]] w (Ret (.bool true) w) := by
  go_enter Try.func17, Try.ntmps17
  go_upto_region 1 with fail
  refine name_world (fun W1 hW1 => ?_)
  have hl1 : Later w W1 := by rw [hW1]; exact (by repeat' (with_reducible first | exact Later.refl _ | assumption | refine Later.drew ?_ | refine Later.drewN ?_ _ | refine Later.alloc ?_ _ | refine Later.put ?_ (by omega) _ | refine Later.trans ?_ (by assumption)))
  have DA : Blk W1 w.heap.size 27 #[.int .i64 len, .int .i64 wd, .int .i64 rx, .int .i64 ry, .slice A1 sz.length c1, .slice A2 pl.length c2] := by rw [hW1]; exact (by repeat' (with_reducible first | assumption | (refine Blk.newAt ?_; simp; done) | refine Blk.alloc ?_ _ | refine Blk.drew ?_ | refine Blk.drewN ?_ _ | refine Blk.later ?_ (by assumption)))
  have DB : Blk W1 (w.heap.size + 1) 27 #[.int .i64 len, .int .i64 wd, .int .i64 rx, .int .i64 ry, .slice B1 sz.length d1, .slice B2 pl.length d2] := by rw [hW1]; exact (by repeat' (with_reducible first | assumption | (refine Blk.newAt ?_; simp; done) | refine Blk.alloc ?_ _ | refine Blk.drew ?_ | refine Blk.drewN ?_ _ | refine Blk.later ?_ (by assumption)))
  clear hW1
  generalize w.heap.size = g at *
  have a0 : W1.cell? ⟨g, 0, none⟩ = some (.int .i64 len) := DA.cell 0
  have a1 : W1.cell? ⟨g, 1, none⟩ = some (.int .i64 wd) := DA.cell 1
  have a2 : W1.cell? ⟨g, 2, none⟩ = some (.int .i64 rx) := DA.cell 2
  have a3 : W1.cell? ⟨g, 3, none⟩ = some (.int .i64 ry) := DA.cell 3
  have a4 : W1.cell? ⟨g, 4, none⟩ = some (.slice A1 sz.length c1) := DA.cell 4
  have a5 : W1.cell? ⟨g, 5, none⟩ = some (.slice A2 pl.length c2) := DA.cell 5
  have za := DA.lt
  have b0 : W1.cell? ⟨g + 1, 0, none⟩ = some (.int .i64 len) := DB.cell 0
  have b1 : W1.cell? ⟨g + 1, 1, none⟩ = some (.int .i64 wd) := DB.cell 1
  have b2 : W1.cell? ⟨g + 1, 2, none⟩ = some (.int .i64 rx) := DB.cell 2
  have b3 : W1.cell? ⟨g + 1, 3, none⟩ = some (.int .i64 ry) := DB.cell 3
  have b4 : W1.cell? ⟨g + 1, 4, none⟩ = some (.slice B1 sz.length d1) := DB.cell 4
  have b5 : W1.cell? ⟨g + 1, 5, none⟩ = some (.slice B2 pl.length d2) := DB.cell 5
  have zb := DB.lt
  go_upto_region 4 with fail
  clear a0 a1 a2 a3 a4 a5 za b0 b1 b2 b3 b4 b5 zb
  go_loopw [5] (fun iv wr => ∃ k : Nat, k ≤ sz.length ∧ iv = .int .i64 k ∧ Later W1 wr) (fun iv _ => sz.length - (intOf iv).toNat)
  case atStart => exact ⟨0, by omega, rfl, (by repeat' (with_reducible first | exact Later.refl _ | assumption | refine Later.drew ?_ | refine Later.drewN ?_ _ | refine Later.alloc ?_ _ | refine Later.put ?_ (by omega) _ | refine Later.trans ?_ (by assumption)))⟩
  case round =>
    obtain ⟨k, hk, rfl, hb⟩ := hrel
    have a4 : wr.cell? ⟨g, 4, none⟩ = some (.slice A1 sz.length c1) := (DA.later hb).cell 4
    have za := (DA.later hb).lt
    have b4 : wr.cell? ⟨g + 1, 4, none⟩ = some (.slice B1 sz.length d1) := (DB.later hb).cell 4
    have zb := (DB.later hb).lt
    by_cases hlt : k < sz.length
    · obtain ⟨ba, oa, rfl, x0⟩ := (h1.later (hl1.trans hb)).at_ hlt
      obtain ⟨bb, ob, rfl, y0⟩ := (h2.later (hl1.trans hb)).at_ hlt
      have zx := World.block_lt_of_cell? _ _ x0
      have zy := World.block_lt_of_cell? _ _ y0
      have hk0 : (0 : Int) ≤ (k : Int) := by omega
      have hk1 : (k : Int) < (sz.length : Int) := by omega
      generalize sz[k] = n at *
      go_upto_region 6 with fail
      go_quiet (fail)
      go_wp2
      go_roundw
      case rel => exact ⟨k + 1, by omega, by go_num, hb.trans (by repeat' (with_reducible first | exact Later.refl _ | assumption | refine Later.drew ?_ | refine Later.drewN ?_ _ | refine Later.alloc ?_ _ | refine Later.put ?_ (by omega) _ | refine Later.trans ?_ (by assumption)))⟩
      case measure => simp [intOf]; omega
    · go_upto_region 9 with fail
      clear a4 za b4 zb hlt hk
      have hb0 := hb
      clear hb
      obtain ⟨W5, hW5⟩ : ∃ wi : World, wi = wr := ⟨_, rfl⟩
      rw [← hW5] at hb0 ⊢
      clear hW5
      go_loopw [6] (fun iv wr => ∃ k : Nat, k ≤ pl.length ∧ iv = .int .i64 k ∧ Later W1 wr) (fun iv _ => pl.length - (intOf iv).toNat)
      case atStart => exact ⟨0, by omega, rfl, hb0⟩
      case round =>
        obtain ⟨k, hk, rfl, hb⟩ := hrel
        have a5 : wr.cell? ⟨g, 5, none⟩ = some (.slice A2 pl.length c2) := (DA.later hb).cell 5
        have za := (DA.later hb).lt
        have b5 : wr.cell? ⟨g + 1, 5, none⟩ = some (.slice B2 pl.length d2) := (DB.later hb).cell 5
        have zb := (DB.later hb).lt
        by_cases hlt : k < pl.length
        · obtain ⟨ba, oa, rfl, hx⟩ := (Pcs.later h3 (hl1.trans hb)) (by omega)
          obtain ⟨bb, ob, rfl, hy⟩ := (Pcs.later h4 (hl1.trans hb)) (by omega)
          obtain ⟨hx1, _⟩ := hx k _ (List.getElem?_eq_getElem hlt)
          obtain ⟨hy1, _⟩ := hy k _ (List.getElem?_eq_getElem hlt)
          have hk0 : (0 : Int) ≤ (k : Int) := by omega
          have hk1 : (k : Int) < (pl.length : Int) := by omega
          generalize pl[k] = p at *
          obtain ⟨p0, p1, p2, pf, pq, px, py⟩ := p
          have x0 := hx1 0 _ rfl
          have x1 := hx1 1 _ rfl
          have x2 := hx1 2 _ rfl
          have x3 := hx1 3 _ rfl
          have x4 := hx1 4 _ rfl
          have x5 := hx1 5 _ rfl
          have x6 := hx1 6 _ rfl
          have y0 := hy1 0 _ rfl
          have y1 := hy1 1 _ rfl
          have y2 := hy1 2 _ rfl
          have y3 := hy1 3 _ rfl
          have y4 := hy1 4 _ rfl
          have y5 := hy1 5 _ rfl
          have y6 := hy1 6 _ rfl
          rw [Nat.add_zero] at x0 y0
          have zx := World.block_lt_of_cell? _ _ x0
          have zy := World.block_lt_of_cell? _ _ y0
          clear hx hy hx1 hy1
          go_upto_region 11 with fail
          go_quiet (fail)
          go_wp2
          go_roundw
          case rel => exact ⟨k + 1, by omega, by go_num, hb.trans (by repeat' (with_reducible first | exact Later.refl _ | assumption | refine Later.drew ?_ | refine Later.drewN ?_ _ | refine Later.alloc ?_ _ | refine Later.put ?_ (by omega) _ | refine Later.trans ?_ (by assumption)))⟩
          case measure => simp [intOf]; omega
        · go_wp2
          go_ret
          exact ⟨rfl, hl1.trans hb⟩

end Go.Proofs.Ytehfpjlcbhimkaa
