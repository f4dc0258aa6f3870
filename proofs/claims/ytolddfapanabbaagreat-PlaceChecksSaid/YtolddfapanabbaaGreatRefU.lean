/-
  The references of layers 12 and 28: turns of one point, of a polygon; places within a repeat; garmentref11.Move.
-/
import Derived.Test.YtolddfapanabbaaGreatPl
import Derived.Test.YtolddfapanabbaaGreatRefN
namespace Go.Proofs.YtolddfapanabbaaGreat
open Go.RowKit
set_option linter.unusedSimpArgs false
set_option linter.unusedVariables false

theorem qm_mod (q : Int) : qm q = q % 4 := by
  have h : (BitVec.ofInt 64 q &&& BitVec.ofInt 64 3).toNat = (BitVec.ofInt 64 q).toNat % 4 := by
    rw [BitVec.toNat_and]
    exact Nat.and_two_pow_sub_one_eq_mod _ 2
  show IntKind.i64.wrap ((BitVec.ofInt 64 q &&& BitVec.ofInt 64 3).toNat : Int) = q % 4
  rw [h, IntWalk.i64_in _ (by omega), BitVec.toNat_ofInt]
  omega
theorem tmod4 (q : Int) : -4 < q.tmod 4 ∧ q.tmod 4 < 4 ∧ (q.tmod 4 < 0 → qm q = q.tmod 4 + 4) ∧ (¬ q.tmod 4 < 0 → qm q = q.tmod 4) := by
  rw [qm_mod]
  rcases Int.le_total 0 q with h | h
  · rw [Int.tmod_eq_emod_of_nonneg h]; omega
  · have h1 : q.tmod 4 = -((-q) % 4) := by
      have h2 : (-q).tmod 4 = -(q.tmod 4) := Int.neg_tmod ..
      rw [Int.tmod_eq_emod_of_nonneg (by omega)] at h2
      omega
    rw [h1]; omega

set_option maxHeartbeats 1000000 in
theorem ref12_Norm (f : Bool) (q : Int) (w : World) : Calls Tryz.prog 40 #[.agg #[.bool f, .int .i64 q]] w (Ret (.agg #[.bool f, .int .i64 (qm q)]) w) := by
  obtain ⟨h1, h2, h3, h4⟩ := tmod4 q
  by_cases hneg : q.tmod 4 < 0
  · rw [h3 hneg]
    have d : decide (q.tmod 4 < 0) = true := by simpa using hneg
    have hw : IntKind.i64.wrap (q.tmod 4 + 4) = q.tmod 4 + 4 := IntWalk.i64_in _ (by omega)
    clear h3 h4
    go_enter Tryz.func40, Tryz.ntmps40
    go_wp2
    refine bodyPost_ret (v := .agg #[.bool f, .int .i64 (q.tmod 4 + 4)]) (by simp [results, Tryz.results40, go_sem]) rfl ⟨rfl, ?_⟩
    exact (by repeat' (with_reducible first | exact Later.refl _ | assumption | refine Later.drew ?_ | refine Later.drewN ?_ _ | refine Later.alloc ?_ _ | refine Later.put ?_ (by omega) _ | refine Later.trans ?_ (by assumption)))
  · rw [h4 hneg]
    have d : decide (q.tmod 4 < 0) = false := by simpa using hneg
    clear h3 h4
    go_enter Tryz.func40, Tryz.ntmps40
    go_wp2
    refine bodyPost_ret (v := .agg #[.bool f, .int .i64 (q.tmod 4)]) (by simp [results, Tryz.results40, go_sem]) rfl ⟨rfl, ?_⟩
    exact (by repeat' (with_reducible first | exact Later.refl _ | assumption | refine Later.drew ?_ | refine Later.drewN ?_ _ | refine Later.alloc ?_ _ | refine Later.put ?_ (by omega) _ | refine Later.trans ?_ (by assumption)))


set_option maxHeartbeats 2000000 in
theorem ref12_Apply (f : Bool) (q x y : Int) (w : World) (hp : NearP 1048576 ⟨x, y⟩) : Calls Tryz.prog 41 #[.agg #[.bool f, .int .i64 q], .agg #[.int .i64 x, .int .i64 y]] w (Ret (ptV (applyP f q ⟨x, y⟩)) w) := by
  have hp' := hp
  unfold NearP at hp'
  simp only [] at hp'
  have HNm := Lib.hid (fun W => ref12_Norm f q W)
  cases f
  · go_enter Tryz.func41, Tryz.ntmps41
    go_wp2_with (first | (go_at_call 40; (with_reducible refine (HNm.out _).mono ?_); rintro e w1 ⟨rfl, hb1⟩; have A1 : Blk w1 (w.heap.size + 1 + 1 + 1) 37 #[.int .i64 x, .int .i64 y] := Blk.later (by repeat' (with_reducible first | assumption | (refine Blk.newAt ?_; simp; done) | refine Blk.alloc ?_ _ | refine Blk.drew ?_ | refine Blk.drewN ?_ _ | refine Blk.later ?_ (by assumption))) hb1; have A2 : Blk w1 (w.heap.size + 1 + 1) 37 #[.int .i64 0, .int .i64 0] := Blk.later (by repeat' (with_reducible first | assumption | (refine Blk.newAt ?_; simp; done) | refine Blk.alloc ?_ _ | refine Blk.drew ?_ | refine Blk.drewN ?_ _ | refine Blk.later ?_ (by assumption))) hb1; have hl1 : Later w w1 := (by repeat' (with_reducible first | exact Later.refl _ | assumption | refine Later.drew ?_ | refine Later.drewN ?_ _ | refine Later.alloc ?_ _ | refine Later.put ?_ (by omega) _ | refine Later.trans ?_ (by assumption)))))
    refine name_world (fun W hW => ?_)
    have hl2 : Later w1 W := by rw [hW]; exact (by repeat' (with_reducible first | exact Later.refl _ | assumption | refine Later.drew ?_ | refine Later.drewN ?_ _ | refine Later.alloc ?_ _ | refine Later.put ?_ (by omega) _ | refine Later.trans ?_ (by assumption)))
    have hl := hl1.trans hl2
    have B1 := A1.later hl2
    have B2 := A2.later hl2
    have B3 : Blk W w1.heap.size 41 #[.bool false, .int .i64 (qm q)] := by rw [hW]; exact (by repeat' (with_reducible first | assumption | (refine Blk.newAt ?_; simp; done) | refine Blk.alloc ?_ _ | refine Blk.drew ?_ | refine Blk.drewN ?_ _ | refine Blk.later ?_ (by assumption)))
    have hz3 : w.heap.size + 1 + 1 + 1 < w1.heap.size := A1.lt
    clear hW A1 A2
    have hq := qm_bd q
    obtain ⟨n, hn⟩ : ∃ n : Nat, qm q = (n : Int) := ⟨(qm q).toNat, by omega⟩
    have hn3 : n ≤ 3 := by omega
    have Ha := Lib.hid (show applyP false q ⟨x, y⟩ = rotN n ⟨x, y⟩ by unfold applyP; rw [hn, Int.toNat_natCast]; rfl)
    generalize hNe : w.heap.size = N at *
    have HN := Lib.hid hNe
    clear hNe
    rw [hn] at B3
    generalize hGe : w1.heap.size = G at *
    have hG : G ≠ N + 1 + 1 + 1 := by omega
    have hG2 : G ≠ N + 1 + 1 := by omega
    clear hn hq hGe hb1 HNm
    go_loopw [7] (fun iv wr => ∃ (k : Nat) (px py : Int), k ≤ n ∧ iv = .int .i64 k ∧ rotN n ⟨x, y⟩ = rotN (n - k) ⟨px, py⟩ ∧ NearP 1048576 ⟨px, py⟩ ∧ Later w wr ∧ Blk wr (N + 1 + 1 + 1) 37 #[.int .i64 px, .int .i64 py] ∧ Blk wr (N + 1 + 1) 37 #[.int .i64 0, .int .i64 0] ∧ Blk wr G 41 #[.bool false, .int .i64 n]) (fun iv _ => n - (intOf iv).toNat)
    case atStart => exact ⟨0, x, y, by omega, rfl, rfl, by unfold NearP at *; simp only [] at *; omega, hl, B1, B2, B3⟩
    case round =>
      clear B1 B2 B3 hl
      obtain ⟨k, px, py, hk, rfl, he, hnr, hb, C1, C2, C3⟩ := hrel
      have He := Lib.hid he
      clear he
      have hnr' := hnr
      unfold NearP at hnr'
      simp only [] at hnr'
      have c0 : wr.cell? ⟨N + 1 + 1 + 1, 0, none⟩ = some (.int .i64 px) := C1.cell 0
      have c1 : wr.cell? ⟨N + 1 + 1 + 1, 1, none⟩ = some (.int .i64 py) := C1.cell 1
      have g1 : wr.cell? ⟨G, 1, none⟩ = some (.int .i64 n) := C3.cell 1
      have f0 := C1.frozen 0
      have f1 := C1.frozen 1
      have hz1 := C1.lt
      have hz4 := C3.lt
      by_cases hlt : k < n
      · go_wp2
        go_roundw
        case rel => exact ⟨k + 1, -py, px, by omega, by go_num, by rw [He.out, show n - k = (n - (k + 1)) + 1 by omega]; rfl, by unfold NearP; simp only []; omega, (hb.put (by rw [HN.out]; omega) _).put (by rw [HN.out]; omega) _, C1.two, (C2.far (by omega) _).far (by omega) _, (C3.far (by omega) _).far (by omega) _⟩
        case measure => simp [intOf]; omega
      · have r0 : wr.cell? ⟨N + 1 + 1, 0, none⟩ = some (.int .i64 0) := C2.cell 0
        have r1 : wr.cell? ⟨N + 1 + 1, 1, none⟩ = some (.int .i64 0) := C2.cell 1
        have e0 := C2.frozen 0
        have e1 := C2.frozen 1
        have hz2 := C2.lt
        go_wp2
        refine bodyPost_ret (v := .agg #[.int .i64 px, .int .i64 py]) (by simp [results, Tryz.results41, go_sem, r0, r1]) rfl ⟨?_, (hb.put (by rw [HN.out]; omega) _).put (by rw [HN.out]; omega) _⟩
        rw [Ha.out, He.out, show n - k = 0 by omega]
        rfl
  · go_enter Tryz.func41, Tryz.ntmps41
    go_wp2_with (first | (go_at_call 40; (with_reducible refine (HNm.out _).mono ?_); rintro e w1 ⟨rfl, hb1⟩; have A1 : Blk w1 (w.heap.size + 1 + 1 + 1) 37 #[.int .i64 (-x), .int .i64 y] := Blk.later (by repeat' (with_reducible first | assumption | (refine Blk.newAt ?_; simp; done) | refine Blk.alloc ?_ _ | refine Blk.drew ?_ | refine Blk.drewN ?_ _ | refine Blk.later ?_ (by assumption))) hb1; have A2 : Blk w1 (w.heap.size + 1 + 1) 37 #[.int .i64 0, .int .i64 0] := Blk.later (by repeat' (with_reducible first | assumption | (refine Blk.newAt ?_; simp; done) | refine Blk.alloc ?_ _ | refine Blk.drew ?_ | refine Blk.drewN ?_ _ | refine Blk.later ?_ (by assumption))) hb1; have hl1 : Later w w1 := (by repeat' (with_reducible first | exact Later.refl _ | assumption | refine Later.drew ?_ | refine Later.drewN ?_ _ | refine Later.alloc ?_ _ | refine Later.put ?_ (by omega) _ | refine Later.trans ?_ (by assumption)))))
    refine name_world (fun W hW => ?_)
    have hl2 : Later w1 W := by rw [hW]; exact (by repeat' (with_reducible first | exact Later.refl _ | assumption | refine Later.drew ?_ | refine Later.drewN ?_ _ | refine Later.alloc ?_ _ | refine Later.put ?_ (by omega) _ | refine Later.trans ?_ (by assumption)))
    have hl := hl1.trans hl2
    have B1 := A1.later hl2
    have B2 := A2.later hl2
    have B3 : Blk W w1.heap.size 41 #[.bool true, .int .i64 (qm q)] := by rw [hW]; exact (by repeat' (with_reducible first | assumption | (refine Blk.newAt ?_; simp; done) | refine Blk.alloc ?_ _ | refine Blk.drew ?_ | refine Blk.drewN ?_ _ | refine Blk.later ?_ (by assumption)))
    have hz3 : w.heap.size + 1 + 1 + 1 < w1.heap.size := A1.lt
    clear hW A1 A2
    have hq := qm_bd q
    obtain ⟨n, hn⟩ : ∃ n : Nat, qm q = (n : Int) := ⟨(qm q).toNat, by omega⟩
    have hn3 : n ≤ 3 := by omega
    have Ha := Lib.hid (show applyP true q ⟨x, y⟩ = rotN n ⟨(-x), y⟩ by unfold applyP; rw [hn, Int.toNat_natCast]; rfl)
    generalize hNe : w.heap.size = N at *
    have HN := Lib.hid hNe
    clear hNe
    rw [hn] at B3
    generalize hGe : w1.heap.size = G at *
    have hG : G ≠ N + 1 + 1 + 1 := by omega
    have hG2 : G ≠ N + 1 + 1 := by omega
    clear hn hq hGe hb1 HNm
    go_loopw [7] (fun iv wr => ∃ (k : Nat) (px py : Int), k ≤ n ∧ iv = .int .i64 k ∧ rotN n ⟨(-x), y⟩ = rotN (n - k) ⟨px, py⟩ ∧ NearP 1048576 ⟨px, py⟩ ∧ Later w wr ∧ Blk wr (N + 1 + 1 + 1) 37 #[.int .i64 px, .int .i64 py] ∧ Blk wr (N + 1 + 1) 37 #[.int .i64 0, .int .i64 0] ∧ Blk wr G 41 #[.bool true, .int .i64 n]) (fun iv _ => n - (intOf iv).toNat)
    case atStart => exact ⟨0, (-x), y, by omega, rfl, rfl, by unfold NearP at *; simp only [] at *; omega, hl, B1, B2, B3⟩
    case round =>
      clear B1 B2 B3 hl
      obtain ⟨k, px, py, hk, rfl, he, hnr, hb, C1, C2, C3⟩ := hrel
      have He := Lib.hid he
      clear he
      have hnr' := hnr
      unfold NearP at hnr'
      simp only [] at hnr'
      have c0 : wr.cell? ⟨N + 1 + 1 + 1, 0, none⟩ = some (.int .i64 px) := C1.cell 0
      have c1 : wr.cell? ⟨N + 1 + 1 + 1, 1, none⟩ = some (.int .i64 py) := C1.cell 1
      have g1 : wr.cell? ⟨G, 1, none⟩ = some (.int .i64 n) := C3.cell 1
      have f0 := C1.frozen 0
      have f1 := C1.frozen 1
      have hz1 := C1.lt
      have hz4 := C3.lt
      by_cases hlt : k < n
      · go_wp2
        go_roundw
        case rel => exact ⟨k + 1, -py, px, by omega, by go_num, by rw [He.out, show n - k = (n - (k + 1)) + 1 by omega]; rfl, by unfold NearP; simp only []; omega, (hb.put (by rw [HN.out]; omega) _).put (by rw [HN.out]; omega) _, C1.two, (C2.far (by omega) _).far (by omega) _, (C3.far (by omega) _).far (by omega) _⟩
        case measure => simp [intOf]; omega
      · have r0 : wr.cell? ⟨N + 1 + 1, 0, none⟩ = some (.int .i64 0) := C2.cell 0
        have r1 : wr.cell? ⟨N + 1 + 1, 1, none⟩ = some (.int .i64 0) := C2.cell 1
        have e0 := C2.frozen 0
        have e1 := C2.frozen 1
        have hz2 := C2.lt
        go_wp2
        refine bodyPost_ret (v := .agg #[.int .i64 px, .int .i64 py]) (by simp [results, Tryz.results41, go_sem, r0, r1]) rfl ⟨?_, (hb.put (by rw [HN.out]; omega) _).put (by rw [HN.out]; omega) _⟩
        rw [Ha.out, He.out, show n - k = 0 by omega]
        rfl

theorem allow_half (m : Int) (h0 : 0 ≤ m) (h1 : m ≤ 3) : (m % 2 == 0) = (m == 0 || m == 2) := by
  obtain rfl | rfl | rfl | rfl : m = 0 ∨ m = 1 ∨ m = 2 ∨ m = 3 := by omega
  all_goals rfl
set_option maxHeartbeats 2000000 in
theorem ref12_Allowed (g : Int) (f : Bool) (q : Int) (w : World) : Calls Tryz.prog 24 #[.int .i64 g, .bool false, .agg #[.bool f, .int .i64 q]] w (Ret (.bool (allowB g f q)) w) := by
  have HN := Lib.hid (fun W => ref12_Norm f q W)
  have hqb := qm_bd q
  have Hhalf := Lib.hid (allow_half (qm q) hqb.1 hqb.2)
  generalize hv : allowB g f q = v
  have Hv := Lib.hid hv
  clear hv
  unfold allowB at Hv
  generalize qm q = m at *
  go_enter Tryz.func24, Tryz.ntmps24
  go_upto_region 2 with (first | (go_at_call 40; (with_reducible refine (HN.out _).mono ?_); rintro e w1 ⟨rfl, hb1⟩))
  have hl1 : Later w w1 := (by repeat' (with_reducible first | exact Later.refl _ | assumption | refine Later.drew ?_ | refine Later.drewN ?_ _ | refine Later.alloc ?_ _ | refine Later.put ?_ (by omega) _ | refine Later.trans ?_ (by assumption)))
  refine name_world (fun W hW => ?_)
  have hl : Later w W := by rw [hW]; exact hl1.trans (by repeat' (with_reducible first | exact Later.refl _ | assumption | refine Later.drew ?_ | refine Later.drewN ?_ _ | refine Later.alloc ?_ _ | refine Later.put ?_ (by omega) _ | refine Later.trans ?_ (by assumption)))
  have C0 : Blk W w1.heap.size 41 #[.bool f, .int .i64 m] := by rw [hW]; exact (by repeat' (with_reducible first | assumption | (refine Blk.newAt ?_; simp; done) | refine Blk.alloc ?_ _ | refine Blk.drew ?_ | refine Blk.drewN ?_ _ | refine Blk.later ?_ (by assumption)))
  have d0 : W.cell? ⟨w1.heap.size, 0, none⟩ = some (.bool f) := C0.cell 0
  have d1 : W.cell? ⟨w1.heap.size, 1, none⟩ = some (.int .i64 m) := C0.cell 1
  clear hW hb1 hl1 C0 HN
  generalize w1.heap.size = G at *
  cases f
  · by_cases h1 : g = 1
    · subst h1
      go_wp2
      go_ret
      exact ⟨ret_bool (by rw [← Hv.out]; rfl), hl⟩
    · have e1 : (g == 1) = false := by simpa using h1
      by_cases h2 : g = 2
      · subst h2
        go_wp2
        go_ret
        exact ⟨ret_bool (by rw [← Hv.out, Hhalf.out]; rfl), hl⟩
      · have e2 : (g == 2) = false := by simpa using h2
        rcases h4 : (g == 4) with _ | _
        · go_wp2
          go_ret
          exact ⟨ret_bool (by rw [← Hv.out, if_neg (by simp), if_neg h1, if_neg h2, h4]), hl⟩
        · go_wp2
          go_ret
          exact ⟨ret_bool (by rw [← Hv.out, if_neg (by simp), if_neg h1, if_neg h2, h4]), hl⟩
  · go_wp2
    go_ret
    exact ⟨ret_bool (by rw [← Hv.out]; rfl), hl⟩

set_option maxRecDepth 100000 in
set_option maxHeartbeats 2000000 in
theorem ref11_Move (A : Option Addr) (c : Nat) (ps : List Pt) (dx dy : Int) (w : World) (hn : ps.length ≤ 4096) (hp : Pts w A ps) (hps : ∀ p ∈ ps, NearP 1048576 p) (hd : NearP 1048576 ⟨dx, dy⟩) :
    Calls Tryz.prog 38 #[.slice A ps.length c, .agg #[.int .i64 dx, .int .i64 dy]] w (RetPts (ps.map (mvP ⟨dx, dy⟩)) w) := by
  unfold NearP at hd
  simp only [] at hd
  go_enter Tryz.func38, Tryz.ntmps38
  go_wp2
  refine name_world (fun W hW => ?_)
  have hl : Later w W := by rw [hW]; exact (by repeat' (with_reducible first | exact Later.refl _ | assumption | refine Later.drew ?_ | refine Later.drewN ?_ _ | refine Later.alloc ?_ _ | refine Later.put ?_ (by omega) _ | refine Later.trans ?_ (by assumption)))
  have B0 : Blk W w.heap.size 37 #[.int .i64 dx, .int .i64 dy] := by rw [hW]; exact (by repeat' (with_reducible first | assumption | (refine Blk.newAt ?_; simp; done) | refine Blk.alloc ?_ _ | refine Blk.drew ?_ | refine Blk.drewN ?_ _ | refine Blk.later ?_ (by assumption)))
  clear hW
  have hpW := hp.later hl
  have c0 : W.cell? ⟨w.heap.size, 0, none⟩ = some (.int .i64 dx) := B0.cell 0
  have c1 : W.cell? ⟨w.heap.size, 1, none⟩ = some (.int .i64 dy) := B0.cell 1
  have zN := B0.lt
  generalize w.heap.size = N at *
  go_loopw [5, 6] (fun v iv wr => ∃ k : Nat, k ≤ ps.length ∧ iv = .int .i64 k ∧ Later W wr ∧ OwnR wr W.heap.size 37 2 pt2 v ((ps.take k).map (mvP ⟨dx, dy⟩))) (fun _ iv _ => ps.length - (intOf iv).toNat)
  case atStart => exact ⟨0, by omega, rfl, Later.refl _, World.ownsRow_nil _ _ _ _⟩
  case round =>
    obtain ⟨k, hk, rfl, hb, hown⟩ := hrel
    by_cases hlt : k < ps.length
    · obtain ⟨b, o, rfl, e1, e2⟩ := (hpW).at_ hlt
      have hbz : b < W.heap.size := World.block_lt_of_cell? _ _ e1
      have hz := hb.size
      have hpk := hps _ (List.getElem_mem hlt)
      have Ht := Lib.hid (show (ps.take (k + 1)).map (mvP ⟨dx, dy⟩) = (ps.take k).map (mvP ⟨dx, dy⟩) ++ [mvP ⟨dx, dy⟩ ps[k]] by rw [List.take_succ_eq_append_getElem hlt, List.map_append]; rfl)
      have hll : ((ps.take k).map (mvP ⟨dx, dy⟩)).length ≤ 4096 := by simp; omega
      generalize ps[k] = p at *
      obtain ⟨px, py⟩ := p
      unfold NearP at hpk
      simp only [] at hpk e1 e2
      generalize (ps.take k).map (mvP ⟨dx, dy⟩) = acc at *
      have hk0 : (0 : Int) ≤ (k : Int) := by omega
      have hk1 : (k : Int) < (ps.length : Int) := by omega
      have x1 : IntKind.i64.wrap (px + dx) = px + dx := IntWalk.i64_in _ (by omega)
      have x2 : IntKind.i64.wrap (py + dy) = py + dy := IntWalk.i64_in _ (by omega)
      have hbd : Later W wr.drew := hb.drew
      go_wp2
      go_region_held3 (fun w' : World => (∀ a : Addr, (W.cell? a).isSome = true → w'.cell? a = W.cell? a) ∧ Later W w') (first | assumption | exact keep_call (by assumption) (by assumption) | exact keep_call (by assumption) ((Later.refl _).alloc _) | exact keep_init _ | exact ⟨Later.keeps (by assumption), by assumption⟩) ((first
        | (have T1 : OwnR (wr.drew.alloc (.cells #[.int .i64 (px + dx), .int .i64 (py + dy)] 37)) W.heap.size 37 2 pt2 u5 acc := (by repeat' (first | (with_reducible assumption) | (with_reducible refine OwnR.drew ?_) | (refine OwnR.lit [] #[] rfl pt2_len (by simp) (by simp) rfl (by simp); done) | (with_reducible refine OwnR.alloc ?_ _)))
           have T2 := SrcAt.blk (w := (wr.drew.alloc (.cells #[.int .i64 (px + dx), .int .i64 (py + dy)] 37))) (g := wr.heap.size) (t := 37) (cs := #[.int .i64 (px + dx), .int .i64 (py + dy)]) (by repeat' (with_reducible first | assumption | (refine Blk.newAt ?_; simp; done) | refine Blk.alloc ?_ _ | refine Blk.drew ?_ | refine Blk.drewN ?_ _ | refine Blk.later ?_ (by assumption)))
           have T3 : W.heap.size ≤ (wr.drew.alloc (.cells #[.int .i64 (px + dx), .int .i64 (py + dy)] 37)).heap.size := by simp; omega
           have T4 : acc.length + [(⟨px + dx, py + dy⟩ : Pt)].length ≤ 65536 := by simp; omega
           refine step_append_rec slt_spot pt2_len pt2_one rfl (.tmp 13) (.tmp 31) rfl (base := W.heap.size) (l := acc) rfl T1 (A := some ⟨wr.heap.size, 0, none⟩) (c := 1) [⟨px + dx, py + dy⟩] rfl (by intro h; cases h) T2 T4 T3 ?_
           intro A4 c4' w4 ho4 hg4
           have hl4 : Later W w4 := Later.grown (by repeat' (with_reducible first | exact Later.refl _ | assumption | refine Later.drew ?_ | refine Later.drewN ?_ _ | refine Later.alloc ?_ _ | refine Later.put ?_ (by omega) _ | refine Later.trans ?_ (by assumption))) hg4 (fun g hg => (World.ownsRow.lt hown g hg).1))))
      rename_i hHw
      simp only [List.length_append, List.length_singleton] at ho4
      go_wp2
      go_roundw
      case rel => exact ⟨k + 1, by omega, by go_num, hHw.2, by rw [Ht.out]; exact ho4⟩
      case measure => simp [intOf]; omega
    · rw [List.take_of_length_le (by omega)] at hown
      obtain ⟨A2, c2, rfl, h1, h2, h3⟩ := hown.pts
      go_wp2
      go_ret
      exact ⟨A2, c2, rfl, h1, h2, h3, hl.trans hb⟩

end Go.Proofs.YtolddfapanabbaaGreat
