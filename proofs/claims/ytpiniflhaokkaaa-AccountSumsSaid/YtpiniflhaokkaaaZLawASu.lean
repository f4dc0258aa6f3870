/-
  AccountSums, walked.
-/
import Derived.Test.YtpiniflhaokkaaaZOpen41
import Derived.Test.YtpiniflhaokkaaaZStepC
namespace Go.Proofs.Ytpiniflhaokkaaa
open Go.RowKit
set_option linter.unusedSimpArgs false
set_option linter.unusedVariables false

/-- The numbers of the account of some of the plies are moderate. -/
theorem bal_bd2 {len wd : Int} {polys : List (List Pt)} {rs : List Rl} {lots : List Int} {ys zs : List Py} (h1 : scheckR len wd polys rs lots (ys.map Py.pl) = 0) (h2 : ckPolysR polys wd = 0) (hz : ∀ z ∈ zs, z ∈ ys) (h8 : zs.length ≤ 8) (hp : ∀ y ∈ ys, y.parts.length ≤ 6) :
    (-1000000000000000 ≤ (balR rs polys zs).t ∧ (balR rs polys zs).t ≤ 1000000000000000) ∧ (-1000000000000000 ≤ (balR rs polys zs).s ∧ (balR rs polys zs).s ≤ 1000000000000000) ∧ (0 ≤ (balR rs polys zs).p ∧ (balR rs polys zs).p ≤ 20000000000000) ∧ (0 ≤ (balR rs polys zs).d ∧ (balR rs polys zs).d ≤ 20000000000000) ∧ (-3000000000000000 ≤ (balR rs polys zs).w ∧ (balR rs polys zs).w ≤ 3000000000000000) := by
  obtain ⟨hB, hw, h40, h60, h20, hl0, hl1, hw0, hw1⟩ := acc_parts h1
  obtain ⟨⟨t1, t2⟩, ⟨s1, s2⟩⟩ := tknA_bd (ys := zs) hw (fun y hy => ⟨hp y (hz y hy), hB y (hz y hy)⟩)
  have k3 := areas_cover h1 h2
  have hat : areaTot polys ≤ 2199023255552 := by
    have := two_bd (a := 2 * len) (b := wd) (M := 2097152) (N := 1048576) (by omega) ⟨hw0, hw1⟩ (by omega)
    omega
  have h0 : 0 ≤ areaTot polys := by
    have := sumHit_le true polys []
    have := sumHit_pos true polys []
    omega
  have k4 := hitA_both rs polys zs
  have k5 := Int.mul_le_mul_of_nonneg_right hat (show 0 ≤ (zs.length : Int) by omega)
  have k6 := hitA_pos false rs polys zs
  have k7 := hitA_pos true rs polys zs
  have e1 : (balR rs polys zs).t = tknA rs zs := rfl
  have e2 : (balR rs polys zs).s = dblA rs zs := rfl
  have e3 : (balR rs polys zs).p = hitA false rs polys zs := rfl
  have e4 : (balR rs polys zs).d = hitA true rs polys zs := rfl
  have e5 : (balR rs polys zs).w = tknA rs zs - dblA rs zs - hitA true rs polys zs - hitA false rs polys zs := rfl
  refine ⟨⟨by omega, by omega⟩, ⟨by omega, by omega⟩, ⟨by omega, by omega⟩, ⟨by omega, by omega⟩, by omega, by omega⟩
theorem Plys.one {w : World} {b o : Nat} {l : List Py} (h : Plys w (some ⟨b, o, none⟩) l) {k : Nat} (hk : k < l.length) : Plys w (some ⟨b, o + k * 2, none⟩) [l[k]] := fun _ => by
  obtain ⟨b', o', e, hx⟩ := h (by omega)
  cases e
  refine ⟨b, o + k * 2, rfl, fun i a ha => ?_⟩
  rcases i with _ | i
  · cases ha
    have := hx k _ (List.getElem?_eq_getElem hk)
    rw [Nat.zero_mul, Nat.add_zero]
    exact this
  · simp at ha

set_option maxHeartbeats 4000000 in
set_option maxRecDepth 100000 in
theorem law40_AccountSums (hex : ∀ W, Calls Try.prog 17 #[] W (Ret (.bool true) W)) (c : C8) (w : World) (hc : C8Ok w c) :
    Calls Try.prog 10 #[c.agg] w (Ret (.bool true) w) := by
  have HX := Lib.hid hex
  by_cases hok : Ok40 c
  · have HL := Lib.hid (fun W (hW : Later w W) => law40_yes c W (hc.later hW) hok)
    have Ha := Lib.hid (fun ys hys => Ok40.acc hok (ys := ys) hys)
    have Hp := Lib.hid (fun ys hys => Ok40.parts hok (ys := ys) hys)
    unfold C8.agg LaidY40 at HL
    unfold C8.agg
    generalize (spR c).1 = yl at *
    obtain ⟨a1, a2, a3, a4, a5, a6, a7⟩ := few8_all hok.1
    have hcc := hc
    clear hok hc
    obtain ⟨len, wd, rx, ry, s1, c1, sz, s2, c2, pl, qa, qc, ps, ra, rc, rs, la, lc, lots, aa, ac, plies⟩ := c
    simp only [] at HL Ha Hp a1 a2 a3 a4 a5 a6 a7 ⊢
    go_enter Try.func10, Try.ntmps10
    go_upto_region 1 with fail
    refine name_world (fun W1 hW1 => ?_)
    have hl1 : Later w W1 := by rw [hW1]; exact (by repeat' (with_reducible first | exact Later.refl _ | assumption | refine Later.drew ?_ | refine Later.drewN ?_ _ | refine Later.alloc ?_ _ | refine Later.put ?_ (by omega) _ | refine Later.trans ?_ (by assumption)))
    have D1 : Blk W1 w.heap.size 31 #[.int .i64 len, .int .i64 wd, .int .i64 rx, .int .i64 ry, .slice s1 sz.length c1, .slice s2 pl.length c2, .slice qa ps.length qc, .slice ra rs.length rc, .slice la lots.length lc, .slice aa plies.length ac] := by rw [hW1]; exact (by repeat' (with_reducible first | assumption | (refine Blk.newAt ?_; simp; done) | refine Blk.alloc ?_ _ | refine Blk.drew ?_ | refine Blk.drewN ?_ _ | refine Blk.later ?_ (by assumption)))
    clear hW1
    have k0 : W1.cell? ⟨w.heap.size, 0, none⟩ = some (.int .i64 len) := D1.cell 0
    have k1 : W1.cell? ⟨w.heap.size, 1, none⟩ = some (.int .i64 wd) := D1.cell 1
    have k2 : W1.cell? ⟨w.heap.size, 2, none⟩ = some (.int .i64 rx) := D1.cell 2
    have k3 : W1.cell? ⟨w.heap.size, 3, none⟩ = some (.int .i64 ry) := D1.cell 3
    have k4 : W1.cell? ⟨w.heap.size, 4, none⟩ = some (.slice s1 sz.length c1) := D1.cell 4
    have k5 : W1.cell? ⟨w.heap.size, 5, none⟩ = some (.slice s2 pl.length c2) := D1.cell 5
    have k6 : W1.cell? ⟨w.heap.size, 6, none⟩ = some (.slice qa ps.length qc) := D1.cell 6
    have k7 : W1.cell? ⟨w.heap.size, 7, none⟩ = some (.slice ra rs.length rc) := D1.cell 7
    have k8 : W1.cell? ⟨w.heap.size, 8, none⟩ = some (.slice la lots.length lc) := D1.cell 8
    have k9 : W1.cell? ⟨w.heap.size, 9, none⟩ = some (.slice aa plies.length ac) := D1.cell 9
    have zk := D1.lt
    go_upto_region 2 with (first | (go_at_call 21; (with_reducible refine (HL.out _ hl1).mono ?_); rintro e w2 ⟨S1, d1, S2, d2, P, pc, ys, bt, bp, bd, bw, bs, rfl, hB, hys, h8, hpc, hpm, hP, hb2⟩))
    obtain ⟨ha1, ha2, ha3⟩ := Ha.out ys hys
    have Hbd := Lib.hid (fun zs hz h8 => bal_bd2 (zs := zs) ha2 ha3 hz h8 (Hp.out ys hys))
    have H1 := Lib.hid (fun y (hy : y ∈ ys) => acc_of (ys := [y]) (check_one ha2 (List.mem_map_of_mem hy)) ha3)
    have HO := Lib.hid (fun y (hy : y ∈ ys) (A : Option Addr) (k : Nat) W (hW : Later w W) (hP : Plys W A [y]) => by
      have h := account_Of qa ra la S1 S2 A qc rc lc sz.length d1 pl.length d2 k len wd rx ry ps rs lots [y] W (hcc.ps.later hW) (fun p hp => by have := a7 p hp; omega) (hcc.rs.later hW) (by omega) (hcc.lots.later hW) (by omega) hP (by simp) (fun z hz => by rw [List.mem_singleton.1 hz]; have := Hp.out ys hys y hy; omega) (by omega) hcc.psc.1
      rw [H1.out y hy] at h
      exact h)
    unfold Bal.agg at HO
    have HBe := Lib.hid hB
    clear ha1 ha2 ha3 hB hys Ha Hp HL H1 hcc a1 a2 a3 a4 a5 a6 a7
    go_upto_region 4 with fail
    refine name_world (fun W3 hW3 => ?_)
    have hl3 : Later w2 W3 := by rw [hW3]; exact (by repeat' (with_reducible first | exact Later.refl _ | assumption | refine Later.drew ?_ | refine Later.drewN ?_ _ | refine Later.alloc ?_ _ | refine Later.put ?_ (by omega) _ | refine Later.trans ?_ (by assumption)))
    have D3 : Blk W3 w2.heap.size 39 #[.int .i64 len, .int .i64 wd, .int .i64 rx, .int .i64 ry, .slice S1 sz.length d1, .slice S2 pl.length d2, .slice P ys.length pc] := by rw [hW3]; exact (by repeat' (with_reducible first | assumption | (refine Blk.newAt ?_; simp; done) | refine Blk.alloc ?_ _ | refine Blk.drew ?_ | refine Blk.drewN ?_ _ | refine Blk.later ?_ (by assumption)))
    have D4 : Blk W3 (w2.heap.size + 1) 58 #[.int .i64 bt, .int .i64 bp, .int .i64 bd, .int .i64 bw, .int .i64 bs] := by rw [hW3]; exact (by repeat' (with_reducible first | assumption | (refine Blk.newAt ?_; simp; done) | refine Blk.alloc ?_ _ | refine Blk.drew ?_ | refine Blk.drewN ?_ _ | refine Blk.later ?_ (by assumption)))
    have D1b := (D1.later hb2).later hl3
    have hlw := (hl1.trans hb2).trans hl3
    have hl3' := hl3
    clear hW3 k0 k1 k2 k3 k4 k5 k6 k7 k8 k9 zk hb2 hl1 hl3
    generalize w2.heap.size + 1 = g4 at *
    generalize w2.heap.size = g3 at *
    have hP3 := Plys.later hP hl3'
    go_upto_region 6 with fail
    refine name_world (fun W4 hW4 => ?_)
    have hl4 : Later W3 W4 := by rw [hW4]; exact (by repeat' (with_reducible first | exact Later.refl _ | assumption | refine Later.drew ?_ | refine Later.drewN ?_ _ | refine Later.alloc ?_ _ | refine Later.put ?_ (by omega) _ | refine Later.trans ?_ (by assumption)))
    have D6 : Blk W4 W3.heap.size 58 #[.int .i64 0, .int .i64 0, .int .i64 0, .int .i64 0, .int .i64 0] := by rw [hW4]; exact (by repeat' (with_reducible first | assumption | (refine Blk.newAt ?_; simp; done) | refine Blk.alloc ?_ _ | refine Blk.drew ?_ | refine Blk.drewN ?_ _ | refine Blk.later ?_ (by assumption)))
    clear hW4
    obtain ⟨g6, hg6⟩ : ∃ g6, W3.heap.size = g6 := ⟨_, rfl⟩
    rw [hg6] at D6 ⊢
    have Hg6 := Lib.hid hg6
    clear hg6
    go_loopw [7] (fun iv wr => ∃ (i : Nat) (t p d v s : Int), i ≤ ys.length ∧ iv = .int .i64 i ∧ balR rs ps (ys.take i) = ⟨t, p, d, v, s⟩ ∧ Blk wr g6 58 #[.int .i64 t, .int .i64 p, .int .i64 d, .int .i64 v, .int .i64 s] ∧ Later W3 wr) (fun iv _ => ys.length - (intOf iv).toNat)
    case atStart => exact ⟨0, 0, 0, 0, 0, 0, by omega, rfl, rfl, D6, hl4⟩
    case round =>
      clear D6 hl4
      obtain ⟨i, t, p, d, v, s, hi, rfl, hBi, D6, hb⟩ := hrel
      have D3r := D3.later hb
      have D1r := D1b.later hb
      have l6 : wr.cell? ⟨g3, 6, none⟩ = some (.slice P ys.length pc) := D3r.cell 6
      have zl := D3r.lt
      have HBi := Lib.hid hBi
      clear hBi
      by_cases hlt : i < ys.length
      · obtain ⟨bP, oP, rfl, e1, e2, hyk⟩ := (Plys.later hP3 hb).at_ hlt
        have hone := Plys.one (Plys.later hP3 hb) hlt
        have zb := World.block_lt_of_cell? _ _ e2
        have HC := Lib.hid (fun k W (hW : Later wr W) => HO.out ys[i] (List.getElem_mem hlt) (some ⟨bP, oP + i * 2, none⟩) k W ((hlw.trans hb).trans hW) (Plys.later hone hW))
        have Happ := Lib.hid (show balR rs ps (ys.take (i + 1)) = balAdd ⟨t, p, d, v, s⟩ (balR rs ps [ys[i]]) by rw [List.take_succ_eq_append_getElem hlt, bal_app, HBi.out])
        have hbd := Hbd.out (ys.take (i + 1)) (fun z hz => List.mem_of_mem_take hz) (by rw [List.length_take]; omega)
        rw [Happ.out] at hbd
        clear hone hyk e1 e2
        generalize balR rs ps [ys[i]] = X at *
        obtain ⟨xt, xp, xd, xw, xs⟩ := X
        unfold balAdd at hbd
        simp only [List.length_singleton] at hbd HC
        obtain ⟨⟨u1, u2⟩, ⟨u3, u4⟩, ⟨u5, u6⟩, ⟨u7, u8⟩, ⟨u9, u10⟩⟩ := hbd
        have vi : IntKind.i64.wrap ((i : Int) + 1) = (i : Int) + 1 := IntWalk.i64_in _ (by omega)
        have v1 : IntKind.i64.wrap (t + xt) = t + xt := IntWalk.i64_in _ (by omega)
        have v2 : IntKind.i64.wrap (p + xp) = p + xp := IntWalk.i64_in _ (by omega)
        have v3 : IntKind.i64.wrap (d + xd) = d + xd := IntWalk.i64_in _ (by omega)
        have v4 : IntKind.i64.wrap (v + xw) = v + xw := IntWalk.i64_in _ (by omega)
        have v5 : IntKind.i64.wrap (s + xs) = s + xs := IntWalk.i64_in _ (by omega)
        have hi0 : (0 : Int) ≤ (i : Int) := by omega
        have hi1 : (i : Int) < (ys.length : Int) := by omega
        have hi2 : (i : Int) + 1 ≤ (ys.length : Int) := by omega
        have hi3 : (i : Int) ≤ (i : Int) + 1 := by omega
        have hi4 : (i : Int) + 1 ≤ (pc : Int) := by omega
        have hi5 : (0 : Int) ≤ (i : Int) + 1 := by omega
        have hpi : ¬ pc = i := by omega
        have k6 : wr.cell? ⟨w.heap.size, 6, none⟩ = some (.slice qa ps.length qc) := D1r.cell 6
        have k7 : wr.cell? ⟨w.heap.size, 7, none⟩ = some (.slice ra rs.length rc) := D1r.cell 7
        have k8 : wr.cell? ⟨w.heap.size, 8, none⟩ = some (.slice la lots.length lc) := D1r.cell 8
        have zk := D1r.lt
        have l0 : wr.cell? ⟨g3, 0, none⟩ = some (.int .i64 len) := D3r.cell 0
        have l1 : wr.cell? ⟨g3, 1, none⟩ = some (.int .i64 wd) := D3r.cell 1
        have l2 : wr.cell? ⟨g3, 2, none⟩ = some (.int .i64 rx) := D3r.cell 2
        have l3 : wr.cell? ⟨g3, 3, none⟩ = some (.int .i64 ry) := D3r.cell 3
        have l4 : wr.cell? ⟨g3, 4, none⟩ = some (.slice S1 sz.length d1) := D3r.cell 4
        have l5 : wr.cell? ⟨g3, 5, none⟩ = some (.slice S2 pl.length d2) := D3r.cell 5
        go_upto_region 8 with fail
        go_cut [8, 9] from 26 to 44 (fun xv ev wx => ∃ g, xv = .pointer (some ⟨g, 0, none⟩) ∧ ev = .int .i64 0 ∧ Blk wx g 58 #[.int .i64 xt, .int .i64 xp, .int .i64 xd, .int .i64 xw, .int .i64 xs] ∧ wr.heap.size ≤ g ∧ Later wr wx)
        case first =>
          have hS : ∀ w' : World, Later wr w' → w'.cell? ⟨w.heap.size, 6, none⟩ = some (.slice qa ps.length qc) ∧ w'.cell? ⟨w.heap.size, 7, none⟩ = some (.slice ra rs.length rc) ∧ w'.cell? ⟨w.heap.size, 8, none⟩ = some (.slice la lots.length lc) ∧ w'.cell? ⟨g3, 0, none⟩ = some (.int .i64 len) ∧ w'.cell? ⟨g3, 1, none⟩ = some (.int .i64 wd) ∧ w'.cell? ⟨g3, 2, none⟩ = some (.int .i64 rx) ∧ w'.cell? ⟨g3, 3, none⟩ = some (.int .i64 ry) ∧ w'.cell? ⟨g3, 4, none⟩ = some (.slice S1 sz.length d1) ∧ w'.cell? ⟨g3, 5, none⟩ = some (.slice S2 pl.length d2) ∧ w'.cell? ⟨g3, 6, none⟩ = some (.slice (some ⟨bP, oP, none⟩) ys.length pc) ∧ w.heap.size < w'.heap.size ∧ g3 < w'.heap.size := fun w' h => ⟨h.cell k6, h.cell k7, h.cell k8, h.cell l0, h.cell l1, h.cell l2, h.cell l3, h.cell l4, h.cell l5, h.cell l6, by have := h.size; omega, by have := h.size; omega⟩
          have HS := Lib.hid hS
          clear k6 k7 k8 zk l0 l1 l2 l3 l4 l5 l6 zl
          refine wp_region_held_drew (S := fun w' : World => w'.cell? ⟨w.heap.size, 6, none⟩ = some (.slice qa ps.length qc) ∧ w'.cell? ⟨w.heap.size, 7, none⟩ = some (.slice ra rs.length rc) ∧ w'.cell? ⟨w.heap.size, 8, none⟩ = some (.slice la lots.length lc) ∧ w'.cell? ⟨g3, 0, none⟩ = some (.int .i64 len) ∧ w'.cell? ⟨g3, 1, none⟩ = some (.int .i64 wd) ∧ w'.cell? ⟨g3, 2, none⟩ = some (.int .i64 rx) ∧ w'.cell? ⟨g3, 3, none⟩ = some (.int .i64 ry) ∧ w'.cell? ⟨g3, 4, none⟩ = some (.slice S1 sz.length d1) ∧ w'.cell? ⟨g3, 5, none⟩ = some (.slice S2 pl.length d2) ∧ w'.cell? ⟨g3, 6, none⟩ = some (.slice (some ⟨bP, oP, none⟩) ys.length pc) ∧ w.heap.size < w'.heap.size ∧ g3 < w'.heap.size) (by kernel_rfl) (hS _ (Later.refl _).drew) (fun hHeld => ?_)
          refine take_at (i := 0) (d := 27) (v := ?_) rfl rfl (by kernel_rfl) (by kernel_rfl) (by kernel_rfl) (fun _ _ _ h => h) (by rfl) ?_ (by assumption) ?_
          rotate_left
          · (intro w hSw; (try dsimp only at hSw); go_simp; (try with_reducible rfl))
          simp only [Act.put, List.setIfInBounds_toArray, List.set_cons_zero, List.set_cons_succ]
          refine take_at (i := 1) (d := 28) (v := ?_) rfl rfl (by kernel_rfl) (by kernel_rfl) (by kernel_rfl) (fun _ _ _ h => h) (by rfl) ?_ (by assumption) ?_
          rotate_left
          · (intro w hSw; (try dsimp only at hSw); go_simp; (try with_reducible rfl))
          simp only [Act.put, List.setIfInBounds_toArray, List.set_cons_zero, List.set_cons_succ]
          refine take_at (i := 2) (d := 29) (v := ?_) rfl rfl (by kernel_rfl) (by kernel_rfl) (by kernel_rfl) (fun _ _ _ h => h) (by rfl) ?_ (by assumption) ?_
          rotate_left
          · (intro w hSw; (try dsimp only at hSw); go_simp; (try with_reducible rfl))
          simp only [Act.put, List.setIfInBounds_toArray, List.set_cons_zero, List.set_cons_succ]
          refine take_at (i := 3) (d := 30) (v := ?_) rfl rfl (by kernel_rfl) (by kernel_rfl) (by kernel_rfl) (fun _ _ _ h => h) (by rfl) ?_ (by assumption) ?_
          rotate_left
          · (intro w hSw; (try dsimp only at hSw); go_simp; (try with_reducible rfl))
          simp only [Act.put, List.setIfInBounds_toArray, List.set_cons_zero, List.set_cons_succ]
          refine take_at (i := 4) (d := 31) (v := ?_) rfl rfl (by kernel_rfl) (by kernel_rfl) (by kernel_rfl) (fun _ _ _ h => h) (by rfl) ?_ (by assumption) ?_
          rotate_left
          · (intro w hSw; (try dsimp only at hSw); go_simp; (try with_reducible rfl))
          simp only [Act.put, List.setIfInBounds_toArray, List.set_cons_zero, List.set_cons_succ]
          refine take_at (i := 5) (d := 32) (v := ?_) rfl rfl (by kernel_rfl) (by kernel_rfl) (by kernel_rfl) (fun _ _ _ h => h) (by rfl) ?_ (by assumption) ?_
          rotate_left
          · (intro w hSw; (try dsimp only at hSw); go_simp; (try with_reducible rfl))
          simp only [Act.put, List.setIfInBounds_toArray, List.set_cons_zero, List.set_cons_succ]
          refine take_at (i := 6) (d := 33) (v := ?_) rfl rfl (by kernel_rfl) (by kernel_rfl) (by kernel_rfl) (fun _ _ _ h => h) (by rfl) ?_ (by assumption) ?_
          rotate_left
          · (intro w hSw; (try dsimp only at hSw); go_simp; (try with_reducible rfl))
          simp only [Act.put, List.setIfInBounds_toArray, List.set_cons_zero, List.set_cons_succ]
          refine take_at (i := 7) (d := 34) (v := .slice (some ⟨bP, oP + i * 2, none⟩) 1 (pc - i)) rfl rfl (by kernel_rfl) (by kernel_rfl) (by kernel_rfl) (fun _ _ _ h => h) (by rfl) ?_ (by assumption) ?_
          · (intro w hSw; (try dsimp only at hSw); go_simp; (try with_reducible rfl))
          simp only [Act.put, List.setIfInBounds_toArray, List.set_cons_zero, List.set_cons_succ]
          refine take_at (i := 8) (d := 35) (v := ?_) rfl rfl (by kernel_rfl) (by kernel_rfl) (by kernel_rfl) (fun _ _ _ h => h) (by rfl) ?_ (by assumption) ?_
          rotate_left
          · (intro w hSw; (try dsimp only at hSw); go_simp; (try with_reducible rfl))
          simp only [Act.put, List.setIfInBounds_toArray, List.set_cons_zero, List.set_cons_succ]
          refine take_at (i := 9) (d := 36) (v := ?_) rfl rfl (by kernel_rfl) (by kernel_rfl) (by kernel_rfl) (fun _ _ _ h => h) (by rfl) ?_ (by assumption) ?_
          rotate_left
          · (intro w hSw; (try dsimp only at hSw); go_simp; (try with_reducible rfl))
          simp only [Act.put, List.setIfInBounds_toArray, List.set_cons_zero, List.set_cons_succ]
          refine take_at (i := 10) (d := 37) (v := ?_) rfl rfl (by kernel_rfl) (by kernel_rfl) (by kernel_rfl) (fun _ _ _ h => h) (by rfl) ?_ (by assumption) ?_
          rotate_left
          · (intro w hSw; (try dsimp only at hSw); go_simp; (try with_reducible rfl))
          simp only [Act.put, List.setIfInBounds_toArray, List.set_cons_zero, List.set_cons_succ]
          refine take_at (i := 11) (d := 38) (v := ?_) rfl rfl (by kernel_rfl) (by kernel_rfl) (by kernel_rfl) (fun _ _ _ h => h) (by rfl) ?_ (by assumption) ?_
          rotate_left
          · (intro w hSw; (try dsimp only at hSw); go_simp; (try with_reducible rfl))
          simp only [Act.put, List.setIfInBounds_toArray, List.set_cons_zero, List.set_cons_succ]
          refine take_at (i := 12) (d := 39) (v := ?_) rfl rfl (by kernel_rfl) (by kernel_rfl) (by kernel_rfl) (fun _ _ _ h => h) (by rfl) ?_ (by assumption) ?_
          rotate_left
          · (intro w hSw; (try dsimp only at hSw); go_simp; (try with_reducible rfl))
          simp only [Act.put, List.setIfInBounds_toArray, List.set_cons_zero, List.set_cons_succ]
          refine take_at (i := 13) (d := 40) (v := ?_) rfl rfl (by kernel_rfl) (by kernel_rfl) (by kernel_rfl) (fun _ _ _ h => h) (by rfl) ?_ (by assumption) ?_
          rotate_left
          · (intro w hSw; (try dsimp only at hSw); go_simp; (try with_reducible rfl))
          simp only [Act.put, List.setIfInBounds_toArray, List.set_cons_zero, List.set_cons_succ]
          refine take_at (i := 14) (d := 41) (v := ?_) rfl rfl (by kernel_rfl) (by kernel_rfl) (by kernel_rfl) (fun _ _ _ h => h) (by rfl) ?_ (by assumption) ?_
          rotate_left
          · (intro w hSw; (try dsimp only at hSw); go_simp; (try with_reducible rfl))
          simp only [Act.put, List.setIfInBounds_toArray, List.set_cons_zero, List.set_cons_succ]
          clear hHeld
          refine wpAnyH_ready (rs := [15, 19]) (by kernel_rfl) (by simp) (ready_call (i := 15) (d := 42) (f := 20) (args := #[.agg #[.int .i64 len, .int .i64 wd, .int .i64 rx, .int .i64 ry, .slice S1 sz.length d1, .slice S2 pl.length d2, .slice (some ⟨bP, oP + i * 2, none⟩) 1 (pc - i)], .slice ra rs.length rc, .slice la lots.length lc, .slice qa ps.length qc]) rfl rfl (by rfl) (by go_simp) ?_ (ready_val3 (i := 19) (d := 8) (v := .pointer (some ⟨wr.drew.heap.size, 0, none⟩)) (w' := wr.drew.alloc (.cells #[.int .i64 0, .int .i64 0, .int .i64 0, .int .i64 0, .int .i64 0] 58)) rfl rfl (by rfl) (by go_simp) (hS _ ((Later.refl _).drew.alloc _)) ?_ AllReadyH.nil))
          · refine (HC.out _ _ (Later.refl _).drew).mono ?_
            rintro e w5 ⟨rfl, hb5⟩
            have hL5 : Later wr w5 := (Later.refl _).drew.trans hb5
            refine ⟨_, rfl, HS.out _ hL5, fun hHeld => ?_⟩
            simp only [Act.put, List.setIfInBounds_toArray, List.set_cons_zero, List.set_cons_succ]
            refine take_at (i := 16) (d := 26) (v := ?_) rfl rfl (by kernel_rfl) (by kernel_rfl) (by kernel_rfl) (fun _ _ _ h => h) (by rfl) ?_ (by assumption) ?_
            rotate_left
            · (intro w hSw; (try dsimp only at hSw); go_simp; (try with_reducible rfl))
            simp only [Act.put, List.setIfInBounds_toArray, List.set_cons_zero, List.set_cons_succ]
            refine take_at (i := 17) (d := 43) (v := ?_) rfl rfl (by kernel_rfl) (by kernel_rfl) (by kernel_rfl) (fun _ _ _ h => h) (by rfl) ?_ (by assumption) ?_
            rotate_left
            · (intro w hSw; (try dsimp only at hSw); go_simp; (try with_reducible rfl))
            simp only [Act.put, List.setIfInBounds_toArray, List.set_cons_zero, List.set_cons_succ]
            refine take_at (i := 18) (d := 44) (v := ?_) rfl rfl (by kernel_rfl) (by kernel_rfl) (by kernel_rfl) (fun _ _ _ h => h) (by rfl) ?_ (by assumption) ?_
            rotate_left
            · (intro w hSw; (try dsimp only at hSw); go_simp; (try with_reducible rfl))
            simp only [Act.put, List.setIfInBounds_toArray, List.set_cons_zero, List.set_cons_succ]
            clear hHeld
            refine val_at (i := 19) (d := 8) (v := .pointer (some ⟨w5.heap.size, 0, none⟩)) (w' := w5.alloc (.cells #[.int .i64 0, .int .i64 0, .int .i64 0, .int .i64 0, .int .i64 0] 58)) (by kernel_rfl) rfl rfl (by rfl) (by go_simp) (HS.out _ (hL5.alloc _)) ?_
            simp only [Act.put, List.setIfInBounds_toArray, List.set_cons_zero, List.set_cons_succ]
            refine store_at (i := 20) (w' := w5.alloc (.cells #[.int .i64 xt, .int .i64 xp, .int .i64 xd, .int .i64 xw, .int .i64 xs] 58)) (by kernel_rfl) rfl rfl (by rfl) (by go_simp) (HS.out _ (hL5.alloc _)) ?_
            have hHeld := HS.out _ (hL5.alloc (.cells #[.int .i64 xt, .int .i64 xp, .int .i64 xd, .int .i64 xw, .int .i64 xs] 58))
            refine take_at (i := 21) (d := 9) (v := ?_) rfl rfl (by kernel_rfl) (by kernel_rfl) (by kernel_rfl) (fun _ _ _ h => h) (by rfl) ?_ (by assumption) ?_
            rotate_left
            · (intro w hSw; (try dsimp only at hSw); go_simp; (try with_reducible rfl))
            simp only [Act.put, List.setIfInBounds_toArray, List.set_cons_zero, List.set_cons_succ]
            refine wpAnyH_done (by kernel_rfl) ?_ _
            go_wp2_with fail
            go_meet
            exact ⟨w5.heap.size, rfl, rfl, (by repeat' (with_reducible first | assumption | (refine Blk.newAt ?_; simp; done) | refine Blk.alloc ?_ _ | refine Blk.drew ?_ | refine Blk.drewN ?_ _ | refine Blk.later ?_ (by assumption))), hL5.size, hL5.alloc _⟩
          · simp only [Act.put, List.setIfInBounds_toArray, List.set_cons_zero, List.set_cons_succ]
            refine call_at (i := 15) (d := 42) (f := 20) (args := #[.agg #[.int .i64 len, .int .i64 wd, .int .i64 rx, .int .i64 ry, .slice S1 sz.length d1, .slice S2 pl.length d2, .slice (some ⟨bP, oP + i * 2, none⟩) 1 (pc - i)], .slice ra rs.length rc, .slice la lots.length lc, .slice qa ps.length qc]) (by kernel_rfl) rfl rfl (by rfl) (by go_simp) ?_
            refine (HC.out _ _ ((Later.refl _).drew.alloc _)).mono ?_
            rintro e w5 ⟨rfl, hb5⟩
            have Z : Blk w5 wr.heap.size 58 #[.int .i64 0, .int .i64 0, .int .i64 0, .int .i64 0, .int .i64 0] := Blk.later (show Blk (wr.drew.alloc (.cells #[.int .i64 0, .int .i64 0, .int .i64 0, .int .i64 0, .int .i64 0] 58)) wr.heap.size 58 _ from Blk.new _ _ _) hb5
            have hL5 : Later wr w5 := ((Later.refl _).drew.alloc _).trans hb5
            have z0 : w5.cell? ⟨wr.heap.size, 0, none⟩ = some (.int .i64 0) := Z.cell 0
            have z1 : w5.cell? ⟨wr.heap.size, 1, none⟩ = some (.int .i64 0) := Z.cell 1
            have z2 : w5.cell? ⟨wr.heap.size, 2, none⟩ = some (.int .i64 0) := Z.cell 2
            have z3 : w5.cell? ⟨wr.heap.size, 3, none⟩ = some (.int .i64 0) := Z.cell 3
            have z4 : w5.cell? ⟨wr.heap.size, 4, none⟩ = some (.int .i64 0) := Z.cell 4
            have f0 := Z.frozen 0
            have f1 := Z.frozen 1
            have f2 := Z.frozen 2
            have f3 := Z.frozen 3
            have f4 := Z.frozen 4
            have zz := Z.lt
            have hsz : wr.drew.heap.size = wr.heap.size := rfl
            refine ⟨_, rfl, HS.out _ hL5, fun hHeld => ?_⟩
            simp only [Act.put, List.setIfInBounds_toArray, List.set_cons_zero, List.set_cons_succ]
            refine take_at (i := 16) (d := 26) (v := ?_) rfl rfl (by kernel_rfl) (by kernel_rfl) (by kernel_rfl) (fun _ _ _ h => h) (by rfl) ?_ (by assumption) ?_
            rotate_left
            · (intro w hSw; (try dsimp only at hSw); go_simp; (try with_reducible rfl))
            simp only [Act.put, List.setIfInBounds_toArray, List.set_cons_zero, List.set_cons_succ]
            refine take_at (i := 17) (d := 43) (v := ?_) rfl rfl (by kernel_rfl) (by kernel_rfl) (by kernel_rfl) (fun _ _ _ h => h) (by rfl) ?_ (by assumption) ?_
            rotate_left
            · (intro w hSw; (try dsimp only at hSw); go_simp; (try with_reducible rfl))
            simp only [Act.put, List.setIfInBounds_toArray, List.set_cons_zero, List.set_cons_succ]
            refine take_at (i := 18) (d := 44) (v := ?_) rfl rfl (by kernel_rfl) (by kernel_rfl) (by kernel_rfl) (fun _ _ _ h => h) (by rfl) ?_ (by assumption) ?_
            rotate_left
            · (intro w hSw; (try dsimp only at hSw); go_simp; (try with_reducible rfl))
            simp only [Act.put, List.setIfInBounds_toArray, List.set_cons_zero, List.set_cons_succ]
            clear hHeld
            have hLp : Later wr (((((w5.setCell ⟨wr.heap.size, 0, none⟩ (.int .i64 xt)).setCell ⟨wr.heap.size, 1, none⟩ (.int .i64 xp)).setCell ⟨wr.heap.size, 2, none⟩ (.int .i64 xd)).setCell ⟨wr.heap.size, 3, none⟩ (.int .i64 xw)).setCell ⟨wr.heap.size, 4, none⟩ (.int .i64 xs)) := ((((hL5.put (Nat.le_refl _) _).put (Nat.le_refl _) _).put (Nat.le_refl _) _).put (Nat.le_refl _) _).put (Nat.le_refl _) _
            refine store_at (i := 20) (w' := (((((w5.setCell ⟨wr.heap.size, 0, none⟩ (.int .i64 xt)).setCell ⟨wr.heap.size, 1, none⟩ (.int .i64 xp)).setCell ⟨wr.heap.size, 2, none⟩ (.int .i64 xd)).setCell ⟨wr.heap.size, 3, none⟩ (.int .i64 xw)).setCell ⟨wr.heap.size, 4, none⟩ (.int .i64 xs))) (by kernel_rfl) rfl rfl (by rfl) (by go_simp) (HS.out _ hLp) ?_
            have hHeld := HS.out _ hLp
            have HLp := Lib.hid hLp
            have ZZ := Lib.hid (((((Z.set_ 0 (.int .i64 xt)).set_ 1 (.int .i64 xp)).set_ 2 (.int .i64 xd)).set_ 3 (.int .i64 xw)).set_ 4 (.int .i64 xs))
            clear hLp Z
            refine take_at (i := 21) (d := 9) (v := ?_) rfl rfl (by kernel_rfl) (by kernel_rfl) (by kernel_rfl) (fun _ _ _ h => h) (by rfl) ?_ (by assumption) ?_
            rotate_left
            · (intro w hSw; (try dsimp only at hSw); go_simp; (try with_reducible rfl))
            simp only [Act.put, List.setIfInBounds_toArray, List.set_cons_zero, List.set_cons_succ]
            refine wpAnyH_done (by kernel_rfl) ?_ _
            go_wp2_with fail
            go_meet
            exact ⟨wr.heap.size, rfl, rfl, ZZ.out, Nat.le_refl _, HLp.out⟩
        case rest =>
          obtain ⟨g, rfl, rfl, hx8, hg8, hcut⟩ := hcut
          have D6c := D6.later hcut
          have x0 : wc.cell? ⟨g6, 0, none⟩ = some (.int .i64 t) := D6c.cell 0
          have x1 : wc.cell? ⟨g6, 1, none⟩ = some (.int .i64 p) := D6c.cell 1
          have x2 : wc.cell? ⟨g6, 2, none⟩ = some (.int .i64 d) := D6c.cell 2
          have x3 : wc.cell? ⟨g6, 3, none⟩ = some (.int .i64 v) := D6c.cell 3
          have x4 : wc.cell? ⟨g6, 4, none⟩ = some (.int .i64 s) := D6c.cell 4
          have f0 := D6c.frozen 0
          have f1 := D6c.frozen 1
          have f2 := D6c.frozen 2
          have f3 := D6c.frozen 3
          have f4 := D6c.frozen 4
          have zx := D6c.lt
          have y0 : wc.cell? ⟨g, 0, none⟩ = some (.int .i64 xt) := hx8.cell 0
          have y1 : wc.cell? ⟨g, 1, none⟩ = some (.int .i64 xp) := hx8.cell 1
          have y2 : wc.cell? ⟨g, 2, none⟩ = some (.int .i64 xd) := hx8.cell 2
          have y3 : wc.cell? ⟨g, 3, none⟩ = some (.int .i64 xw) := hx8.cell 3
          have y4 : wc.cell? ⟨g, 4, none⟩ = some (.int .i64 xs) := hx8.cell 4
          have zy := hx8.lt
          have hgg : g6 < g := by have := D6.lt; omega
          clear k6 k7 k8 zk l0 l1 l2 l3 l4 l5 l6 zl
          have hlc := hb.trans hcut
          go_upto_region 7 with fail
          refine name_world (fun W9 hW9 => ?_)
          have D9 : Blk W9 g6 58 #[.int .i64 (t + xt), .int .i64 (p + xp), .int .i64 (d + xd), .int .i64 (v + xw), .int .i64 (s + xs)] := by rw [hW9]; exact (((((D6c.set_ 0 _).set_ 1 _).set_ 2 _).set_ 3 _).set_ 4 _)
          have hl9 : Later W3 W9 := by rw [hW9]; exact ((((hlc.put (by have := Hg6.out; omega) _).put (by have := Hg6.out; omega) _).put (by have := Hg6.out; omega) _).put (by have := Hg6.out; omega) _).put (by have := Hg6.out; omega) _
          have Hl9 := Lib.hid hl9
          clear hW9 hl9
          go_wp2
          go_roundw
          case rel => exact ⟨i + 1, t + xt, p + xp, d + xd, v + xw, s + xs, by omega, by go_num, Happ.out, D9, Hl9.out⟩
          case measure => simp [intOf]; omega
      · have hie : i = ys.length := by omega
        subst hie
        have hfin := HBi.out
        rw [List.take_length, HBe.out] at hfin
        cases hfin
        have D4r := D4.later hb
        have x0 : wr.cell? ⟨g6, 0, none⟩ = some (.int .i64 bt) := D6.cell 0
        have x1 : wr.cell? ⟨g6, 1, none⟩ = some (.int .i64 bp) := D6.cell 1
        have x2 : wr.cell? ⟨g6, 2, none⟩ = some (.int .i64 bd) := D6.cell 2
        have x3 : wr.cell? ⟨g6, 3, none⟩ = some (.int .i64 bw) := D6.cell 3
        have x4 : wr.cell? ⟨g6, 4, none⟩ = some (.int .i64 bs) := D6.cell 4
        have zx := D6.lt
        have y0 : wr.cell? ⟨g4, 0, none⟩ = some (.int .i64 bt) := D4r.cell 0
        have y1 : wr.cell? ⟨g4, 1, none⟩ = some (.int .i64 bp) := D4r.cell 1
        have y2 : wr.cell? ⟨g4, 2, none⟩ = some (.int .i64 bd) := D4r.cell 2
        have y3 : wr.cell? ⟨g4, 3, none⟩ = some (.int .i64 bw) := D4r.cell 3
        have y4 : wr.cell? ⟨g4, 4, none⟩ = some (.int .i64 bs) := D4r.cell 4
        have zy := D4r.lt
        go_wp2_with (first | (go_at_call 17; (with_reducible refine (HX.out _).mono ?_); rintro e w10 ⟨rfl, hb10⟩))
        go_ret
        exact ⟨rfl, (hlw.trans hb).trans (by repeat' (with_reducible first | exact Later.refl _ | assumption | refine Later.drew ?_ | refine Later.drewN ?_ _ | refine Later.alloc ?_ _ | refine Later.put ?_ (by omega) _ | refine Later.trans ?_ (by assumption)))⟩
  · have HL := Lib.hid (fun W (hW : Later w W) => law40_no c W (hc.later hW) hok)
    unfold C8.agg at HL ⊢
    clear hok
    obtain ⟨len, wd, rx, ry, s1, c1, sz, s2, c2, pl, qa, qc, ps, ra, rc, rs, la, lc, lots, aa, ac, plies⟩ := c
    simp only [] at HL ⊢
    go_enter Try.func10, Try.ntmps10
    go_wp2_with (first | (go_at_call 21; (with_reducible refine (HL.out _ (by repeat' (with_reducible first | exact Later.refl _ | assumption | refine Later.drew ?_ | refine Later.drewN ?_ _ | refine Later.alloc ?_ _ | refine Later.put ?_ (by omega) _ | refine Later.trans ?_ (by assumption)))).mono ?_); rintro e w2 ⟨l0, l1, l2, l3, A1, n1, d1, A2, n2, d2, A3, n3, d3, b0, b1, b2, b3, b4, rfl, hb2⟩) | (go_at_call 17; (with_reducible refine (HX.out _).mono ?_); rintro e w10 ⟨rfl, hb10⟩))
    go_ret
    exact ⟨rfl, (by repeat' (with_reducible first | exact Later.refl _ | assumption | refine Later.drew ?_ | refine Later.drewN ?_ _ | refine Later.alloc ?_ _ | refine Later.put ?_ (by omega) _ | refine Later.trans ?_ (by assumption)))⟩

end Go.Proofs.Ytpiniflhaokkaaa
