/-
  PlaceMoves, walked.
-/
import Derived.Test.YtinjdlnikhcbfaaLawGro
import Derived.Test.YtinjdlnikhcbfaaMoveQ
import Derived.Deep.DeepCutAuto
namespace Go.Proofs.Ytinjdlnikhcbfaa
open Go.RowKit
set_option linter.unusedSimpArgs false
set_option linter.unusedVariables false

def stepI (r n : Int) : Int := if r < 1 ∨ 1048576 < r then n else r * (n % 4)
set_option maxHeartbeats 1000000 in
theorem law30_step (r n : Int) (w : World) (hn : 0 ≤ n ∧ n ≤ 255) (hr : r ≤ 250 ∨ 1048576 < r) : Calls Try.prog 35 #[.int .i64 r, .int .i64 n] w (Pure (.int .i64 (stepI r n)) w) := by
  have ht : n.tmod 4 = n % 4 := Int.tmod_eq_emod_of_nonneg (by omega)
  go_enter Try.func35, Try.ntmps35
  by_cases h1 : r < 1
  · have d1 : decide (r < 1) = true := by simpa using h1
    have H := Lib.hid (show stepI r n = n by unfold stepI; rw [if_pos (.inl h1)])
    go_wp2
    go_ret
    exact ⟨ret_int H.out.symm, rfl⟩
  · have d1 : decide (r < 1) = false := by simpa using h1
    by_cases h2 : 1048576 < r
    · have d2 : decide (1048576 < r) = true := by simpa using h2
      have H := Lib.hid (show stepI r n = n by unfold stepI; rw [if_pos (.inr h2)])
      go_wp2
      go_ret
      exact ⟨ret_int H.out.symm, rfl⟩
    · have d2 : decide (1048576 < r) = false := by simpa using h2
      have H := Lib.hid (show stepI r n = r * (n % 4) by unfold stepI; rw [if_neg (by omega)])
      have hb := mul_bd (a := r) (b := n % 4) 250 (by omega) (by omega)
      go_wp2
      go_ret
      exact ⟨ret_int H.out.symm, rfl⟩
theorem step_bd {r n : Int} (hn : 0 ≤ n ∧ n ≤ 250) (hr : r ≤ 250 ∨ 1048576 < r) : 0 ≤ stepI r n ∧ stepI r n ≤ 1000 := by
  unfold stepI
  split
  · omega
  · rename_i h
    have h4 : 0 ≤ n % 4 ∧ n % 4 ≤ 3 := by omega
    constructor
    · exact Int.mul_nonneg (by omega) h4.1
    · have := mul_bd (a := r) (b := n % 4) 250 (by omega) (by omega)
      have h3 : r * (n % 4) ≤ 250 * (n % 4) := Int.mul_le_mul_of_nonneg_right (by omega) h4.1
      omega
theorem step_per {r n : Int} : periodI r = 0 ∨ ∃ k, stepI r n = periodI r * k := by
  unfold periodI stepI
  split
  · exact .inl rfl
  · exact .inr ⟨n % 4, rfl⟩

set_option maxHeartbeats 1000000 in
theorem law30_valid (c : Cs) (w : World) (hc : CsOk w c) : Calls Try.prog 33 #[c.agg] w (Ret (.bool (fewCs c && pcheckR c.b c.sh c.pu == 0)) w) := by
  have HF := Lib.hid (fun W (hW : Later w W) => law30_few c W (hc.later hW))
  unfold Cs.agg at HF ⊢
  rcases hf : fewCs c with _ | _
  · rw [hf] at HF
    obtain ⟨⟨bl, bw, rx, ry⟩, sa, sc, sh, pa, pc, pu⟩ := c
    simp only [] at HF ⊢
    go_enter Try.func33, Try.ntmps33
    go_wp2_with (first | (go_at_call 72; (with_reducible refine (HF.out _ (by repeat' (with_reducible first | exact Later.refl _ | assumption | refine Later.drew ?_ | refine Later.drewN ?_ _ | refine Later.alloc ?_ _ | refine Later.put ?_ (by omega) _ | refine Later.trans ?_ (by assumption)))).mono ?_); rintro e w1 ⟨rfl, hb1⟩))
    go_ret
    exact ⟨rfl, (by repeat' (with_reducible first | exact Later.refl _ | assumption | refine Later.drew ?_ | refine Later.drewN ?_ _ | refine Later.alloc ?_ _ | refine Later.put ?_ (by omega) _ | refine Later.trans ?_ (by assumption)))⟩
  · rw [hf] at HF
    unfold fewCs at hf
    rw [Bool.and_eq_true] at hf
    obtain ⟨h8, h12⟩ := fewSh_all hf.1
    have hpl8 : c.pu.length ≤ 8 := by have := hf.2; simp at this; omega
    have HC := Lib.hid (fun W (hW : Later w W) => place_Check c.b c.sa c.pa c.sc c.pc c.sh c.pu W (hc.1.later hW) (by omega) (fun s hs => by have := h12 s hs; omega) (hc.2.2.2.1.later hW) hc.2.2.2.2.1)
    obtain ⟨⟨bl, bw, rx, ry⟩, sa, sc, sh, pa, pc, pu⟩ := c
    unfold Bd.agg at HC
    simp only [] at HF HC ⊢
    generalize pcheckR ⟨bl, bw, rx, ry⟩ sh pu = ok0 at *
    go_enter Try.func33, Try.ntmps33
    go_wp2_with (first | (go_at_call 72; (with_reducible refine (HF.out _ (by repeat' (with_reducible first | exact Later.refl _ | assumption | refine Later.drew ?_ | refine Later.drewN ?_ _ | refine Later.alloc ?_ _ | refine Later.put ?_ (by omega) _ | refine Later.trans ?_ (by assumption)))).mono ?_); rintro e w1 ⟨rfl, hb1⟩; have c0 : w1.cell? ⟨w.heap.size, 0, none⟩ = some (.int .i64 bl) := hb1.cell (by simp [go_sem]); have c1 : w1.cell? ⟨w.heap.size, 1, none⟩ = some (.int .i64 bw) := hb1.cell (by simp [go_sem]); have c2 : w1.cell? ⟨w.heap.size, 2, none⟩ = some (.int .i64 rx) := hb1.cell (by simp [go_sem]); have c3 : w1.cell? ⟨w.heap.size, 3, none⟩ = some (.int .i64 ry) := hb1.cell (by simp [go_sem]); have c4 : w1.cell? ⟨w.heap.size, 4, none⟩ = some (.slice sa sh.length sc) := hb1.cell (by simp [go_sem]); have c5 : w1.cell? ⟨w.heap.size, 5, none⟩ = some (.slice pa pu.length pc) := hb1.cell (by simp [go_sem])) | (go_at_call 36; (with_reducible refine (HC.out _ (by repeat' (with_reducible first | exact Later.refl _ | assumption | refine Later.drew ?_ | refine Later.drewN ?_ _ | refine Later.alloc ?_ _ | refine Later.put ?_ (by omega) _ | refine Later.trans ?_ (by assumption)))).mono ?_); rintro e w2 ⟨rfl, hb2⟩))
    go_ret
    exact ⟨ret_bool (by simp), (by repeat' (with_reducible first | exact Later.refl _ | assumption | refine Later.drew ?_ | refine Later.drewN ?_ _ | refine Later.alloc ?_ _ | refine Later.put ?_ (by omega) _ | refine Later.trans ?_ (by assumption)))⟩

set_option maxHeartbeats 8000000 in
set_option maxRecDepth 100000 in
theorem law30_PlaceMoves_in (hex : ∀ W, Calls Try.prog 34 #[] W (Ret (.bool true) W)) (c : Cs) (x y : Nat) (w : World) (hc : CsOk w c) (hx : x ≤ 255) (hy : y ≤ 255) (hf : fewCs c = true) (hv : pcheckR c.b c.sh c.pu = 0)
    (hbl : c.b.l ≤ 1000) (hbw : c.b.w ≤ 1000) (hrx : c.b.rx ≤ 250 ∨ 1048576 < c.b.rx) (hry : c.b.ry ≤ 250 ∨ 1048576 < c.b.ry) :
    Calls Try.prog 12 #[c.agg, .int .u8 x, .int .u8 y] w (Ret (.bool true) w) := by
  have HX := Lib.hid hex
  have HV := Lib.hid (fun W (hW : Later w W) => law30_valid c W (hc.later hW))
  rw [hf, hv] at HV
  unfold fewCs at hf
  rw [Bool.and_eq_true] at hf
  obtain ⟨h8, h12⟩ := fewSh_all hf.1
  have hpl8 : c.pu.length ≤ 8 := by have := hf.2; simp at this; omega
  have HC := Lib.hid (fun (b : Bd) (pa : Option Addr) (pc : Nat) (pu : List Pu) W (hW : Later w W) (hp : Puts W pa pu) (hpc : pu.length ≤ pc) => place_Check b c.sa pa c.sc pc c.sh pu W (hc.1.later hW) (by omega) (fun s hs => by have := h12 s hs; omega) hp hpc)
  have hpair := (pcheck_pairs (by omega)).1 hv
  have hsnd := Lib.hid hpair.1
  have HMV := Lib.hid (fun (d : Pt) (hd : 0 ≤ d.x ∧ d.x ≤ 1000 ∧ 0 ≤ d.y ∧ d.y ≤ 1000) (hx : periodI c.b.rx = 0 ∨ ∃ k, d.x = periodI c.b.rx * k) (hy : periodI c.b.ry = 0 ∨ ∃ k, d.y = periodI c.b.ry * k) => pcheck_mv (l := c.sh) (puts := c.pu) hbl hbw hd hx hy (by omega) hv)
  clear hv hpair hf
  obtain ⟨hsh, _, _, hpu, hpc, _, i1, i2, i3, i4⟩ := hc
  unfold Cs.agg at HV ⊢
  obtain ⟨⟨bl, bw, rx, ry⟩, sa, sc, sh, pa, pc, pu⟩ := c
  simp only [] at *
  unfold I64 at i1 i2 i3 i4
  have b1 := step_bd (r := rx) (n := (x : Int) % 251) (by omega) hrx
  have b2 := step_bd (r := ry) (n := (y : Int) % 251) (by omega) hry
  have HSx := Lib.hid (fun W => law30_step rx ((x : Int) % 251) W (by omega) hrx)
  have HSy := Lib.hid (fun W => law30_step ry ((y : Int) % 251) W (by omega) hry)
  have HP := Lib.hid (And.intro (step_per (r := rx) (n := (x : Int) % 251)) (step_per (r := ry) (n := (y : Int) % 251)))
  generalize stepI rx ((x : Int) % 251) = dx at *
  generalize stepI ry ((y : Int) % 251) = dy at *
  have d1 : decide (1000 < bl) = false := by simp; omega
  have d2 : decide (1000 < bw) = false := by simp; omega
  have wx : IntKind.i64.wrap (x : Int) = (x : Int) := IntWalk.i64_in _ (by omega)
  have wy : IntKind.i64.wrap (y : Int) = (y : Int) := IntWalk.i64_in _ (by omega)
  have tx : (x : Int).tmod 251 = (x : Int) % 251 := Int.tmod_eq_emod_of_nonneg (by omega)
  have ty : (y : Int).tmod 251 = (y : Int) % 251 := Int.tmod_eq_emod_of_nonneg (by omega)
  go_enter Try.func12, Try.ntmps12
  go_upto_region 4 with (first | (go_at_call 33; (with_reducible refine (HV.out _ (by repeat' (with_reducible first | exact Later.refl _ | assumption | refine Later.drew ?_ | refine Later.drewN ?_ _ | refine Later.alloc ?_ _ | refine Later.put ?_ (by omega) _ | refine Later.trans ?_ (by assumption)))).mono ?_); rintro e w1 ⟨rfl, hb1⟩; have c0 : w1.cell? ⟨w.heap.size, 0, none⟩ = some (.int .i64 bl) := hb1.cell (by simp [go_sem]); have c1 : w1.cell? ⟨w.heap.size, 1, none⟩ = some (.int .i64 bw) := hb1.cell (by simp [go_sem]); have c2 : w1.cell? ⟨w.heap.size, 2, none⟩ = some (.int .i64 rx) := hb1.cell (by simp [go_sem]); have c3 : w1.cell? ⟨w.heap.size, 3, none⟩ = some (.int .i64 ry) := hb1.cell (by simp [go_sem]); have c4 : w1.cell? ⟨w.heap.size, 4, none⟩ = some (.slice sa sh.length sc) := hb1.cell (by simp [go_sem]); have c5 : w1.cell? ⟨w.heap.size, 5, none⟩ = some (.slice pa pu.length pc) := hb1.cell (by simp [go_sem])))
  refine name_world (fun W2 hW2 => ?_)
  have hl2 : Later w1 W2 := by rw [hW2]; exact (by repeat' (with_reducible first | exact Later.refl _ | assumption | refine Later.drew ?_ | refine Later.drewN ?_ _ | refine Later.alloc ?_ _ | refine Later.put ?_ (by omega) _ | refine Later.trans ?_ (by assumption)))
  have t0 : W2.cell? ⟨w1.heap.size, 0, none⟩ = some (.int .i64 rx) := by rw [hW2]; simp [go_sem]
  have t1 : W2.cell? ⟨w1.heap.size, 1, none⟩ = some (.int .i64 ry) := by rw [hW2]; simp [go_sem]
  have hlw : Later w W2 := Later.trans (by repeat' (with_reducible first | exact Later.refl _ | assumption | refine Later.drew ?_ | refine Later.drewN ?_ _ | refine Later.alloc ?_ _ | refine Later.put ?_ (by omega) _ | refine Later.trans ?_ (by assumption))) hl2
  have c0 := hl2.cell c0
  have c1 := hl2.cell c1
  have c2 := hl2.cell c2
  have c3 := hl2.cell c3
  have c4 := hl2.cell c4
  have c5 := hl2.cell c5
  clear hW2 hl2 hb1
  have zN : w.heap.size < W2.heap.size := World.block_lt_of_cell? _ _ c0
  have zg : w1.heap.size < W2.heap.size := World.block_lt_of_cell? _ _ t0
  generalize w.heap.size = N at *
  generalize w1.heap.size = g7 at *
  go_cut [50] (fun v wx => v = .bool false ∧ W2 = wx)
  case first =>
    by_cases hx1 : 250 < rx
    · have e1 : decide (250 < rx) = true := by simpa using hx1
      have e2 : decide (rx ≤ 1048576) = false := by simp; omega
      by_cases hy1 : 250 < ry
      · have e3 : decide (250 < ry) = true := by simpa using hy1
        have e4 : decide (ry ≤ 1048576) = false := by simp; omega
        go_wp2_with fail
        go_meet
        exact ⟨rfl, rfl⟩
      · have e3 : decide (250 < ry) = false := by simpa using hy1
        go_wp2_with fail
        go_meet
        exact ⟨rfl, rfl⟩
    · have e1 : decide (250 < rx) = false := by simpa using hx1
      by_cases hy1 : 250 < ry
      · have e3 : decide (250 < ry) = true := by simpa using hy1
        have e4 : decide (ry ≤ 1048576) = false := by simp; omega
        go_wp2_with fail
        go_meet
        exact ⟨rfl, rfl⟩
      · have e3 : decide (250 < ry) = false := by simpa using hy1
        go_wp2_with fail
        go_meet
        exact ⟨rfl, rfl⟩
  case rest =>
  obtain ⟨rfl, rfl⟩ := hcut
  go_upto_region 6 with fail
  go_cut [8] (fun v8 wx => ∃ g8 : Nat, v8 = .pointer (some ⟨g8, 0, none⟩) ∧ Later W2 wx ∧ Blk wx g8 86 #[.int .i64 dx, .int .i64 dy])
  case first =>
    go_region_held3 (fun w' : World => (∀ a : Addr, (W2.cell? a).isSome = true → w'.cell? a = W2.cell? a) ∧ Later W2 w') (first | assumption | exact keep_call (by assumption) (by assumption) | exact keep_call (by assumption) ((Later.refl _).alloc _) | exact keep_init _ | exact ⟨Later.keeps (by assumption), by assumption⟩ | exact ⟨Later.keeps (by repeat' (with_reducible first | exact Later.refl _ | assumption | refine Later.drew ?_ | refine Later.drewN ?_ _ | refine Later.alloc ?_ _ | refine Later.put ?_ (by omega) _ | refine Later.trans ?_ (by assumption))), (by repeat' (with_reducible first | exact Later.refl _ | assumption | refine Later.drew ?_ | refine Later.drewN ?_ _ | refine Later.alloc ?_ _ | refine Later.put ?_ (by omega) _ | refine Later.trans ?_ (by assumption)))⟩) ((first | (go_at_call 35; (with_reducible refine (HSx.out _).mono ?_); rintro e wx ⟨rfl, rfl⟩) | (go_at_call 35; (with_reducible refine (HSy.out _).mono ?_); rintro e wy ⟨rfl, rfl⟩)))
    all_goals
      go_wp2_with fail
      go_meet
      exact ⟨_, rfl, (by repeat' (with_reducible first | exact Later.refl _ | assumption | refine Later.drew ?_ | refine Later.drewN ?_ _ | refine Later.alloc ?_ _ | refine Later.put ?_ (by omega) _ | refine Later.trans ?_ (by assumption))), (by repeat' (with_reducible first | assumption | (refine Blk.newAt ?_; simp; done) | refine Blk.alloc ?_ _ | refine Blk.drew ?_ | refine Blk.drewN ?_ _ | refine Blk.later ?_ (by assumption)))⟩
  case rest =>
  obtain ⟨g8, rfl, hl8, D8⟩ := hcut
  have c0 := hl8.cell c0
  have c1 := hl8.cell c1
  have c2 := hl8.cell c2
  have c3 := hl8.cell c3
  have c4 := hl8.cell c4
  have c5 := hl8.cell c5
  have hlc : Later w wc := hlw.trans hl8
  have u0 : wc.cell? ⟨g8, 0, none⟩ = some (.int .i64 dx) := D8.cell 0
  have u1 : wc.cell? ⟨g8, 1, none⟩ = some (.int .i64 dy) := D8.cell 1
  have z8 : g8 < wc.heap.size := D8.lt
  have zN : N < wc.heap.size := World.block_lt_of_cell? _ _ c0
  have v1 : IntKind.i64.wrap (bl + dx) = bl + dx := IntWalk.i64_in _ (by omega)
  have v2 : IntKind.i64.wrap (bw + dy) = bw + dy := IntWalk.i64_in _ (by omega)
  clear hl8 t0 t1
  go_upto_region 10 with fail
  refine name_world (fun W9 hW9 => ?_)
  have hl9 : Later wc W9 := by rw [hW9]; exact (by repeat' (with_reducible first | exact Later.refl _ | assumption | refine Later.drew ?_ | refine Later.drewN ?_ _ | refine Later.alloc ?_ _ | refine Later.put ?_ (by omega) _ | refine Later.trans ?_ (by assumption)))
  have x0 : W9.cell? ⟨wc.heap.size, 0, none⟩ = some (.int .i64 (bl + dx)) := by rw [hW9]; simp [go_sem]
  have x1 : W9.cell? ⟨wc.heap.size, 1, none⟩ = some (.int .i64 (bw + dy)) := by rw [hW9]; simp [go_sem]
  have x2 : W9.cell? ⟨wc.heap.size, 2, none⟩ = some (.int .i64 rx) := by rw [hW9]; simp [go_sem]
  have x3 : W9.cell? ⟨wc.heap.size, 3, none⟩ = some (.int .i64 ry) := by rw [hW9]; simp [go_sem]
  have c4 := hl9.cell c4
  have c5 := hl9.cell c5
  have u0 := hl9.cell u0
  have u1 := hl9.cell u1
  have hlw9 : Later w W9 := hlc.trans hl9
  have z9 : wc.heap.size < W9.heap.size := World.block_lt_of_cell? _ _ x0
  have hP9 : Puts W9 pa pu := hpu.later hlw9
  clear hW9 hl9
  generalize wc.heap.size = g9 at *
  go_wp2
  go_loopw [10, 11] (fun v iv wr => ∃ k : Nat, k ≤ pu.length ∧ iv = .int .i64 k ∧ OwnR wr W9.heap.size 90 5 Pu.cells v ((pu.take k).map (mvPu ⟨dx, dy⟩)) ∧ (∀ p ∈ pu.take k, MvOk sh p) ∧ Later W9 wr) (fun _ iv _ => pu.length - (intOf iv).toNat)
  case atStart => exact ⟨0, by omega, rfl, World.ownsRow_nil _ _ _ _, fun p hp => (by simp at hp), Later.refl _⟩
  case round =>
    obtain ⟨k, hk, rfl, ho, hmv, hb⟩ := hrel
    have Ho := Lib.hid ho
    have Hmv := Lib.hid hmv
    clear ho hmv
    have c4 := hb.cell c4
    have c5 := hb.cell c5
    have u0 := hb.cell u0
    have u1 := hb.cell u1
    have zNr : N < wr.heap.size := World.block_lt_of_cell? _ _ c4
    have z8r : g8 < wr.heap.size := World.block_lt_of_cell? _ _ u0
    have hlwr : Later w wr := hlw9.trans hb
    by_cases hlt : k < pu.length
    · obtain ⟨bb, ob, rfl, e0, e1, e2, e3, e4, hok⟩ := (hP9.later hb).at_ hlt
      have hbz : bb < wr.heap.size := World.block_lt_of_cell? _ _ e0
      obtain ⟨_, hpz, _⟩ := hsnd.out _ (List.getElem_mem hlt)
      obtain ⟨p1, p2, _⟩ := poly_zero hpz
      have Htk := Lib.hid (show pu.take (k + 1) = pu.take k ++ [pu[k]] from List.take_succ_eq_append_getElem hlt)
      clear hpz
      generalize pu[k] = q at *
      obtain ⟨qs, qf, qq, qx, qy⟩ := q
      simp only [] at e0 e1 e2 e3 e4 p1 p2
      obtain ⟨n, rfl⟩ : ∃ n : Nat, qs = (n : Int) := ⟨qs.toNat, by omega⟩
      have hn : n < sh.length := by omega
      obtain ⟨bs, os, rfl, f0, f1, f2, f3, f4, _⟩ := (hsh.later hlwr).at_ hn
      have Hgs := Lib.hid (show gs sh n = sh[n] by unfold gs; simp [hn])
      have hsz : bs < wr.heap.size := World.block_lt_of_cell? _ _ f0
      generalize sh[n] = s at *
      obtain ⟨spa, spc, sps, sgr, smt, sax, say⟩ := s
      simp only [] at f0 f1 f2 f3 f4
      have hk0 : (0 : Int) ≤ (k : Int) := by omega
      have hk1 : (k : Int) < (pu.length : Int) := by omega
      have d5 : decide ((n : Int) < 0) = false := by simp
      have d6 : decide ((sh.length : Int) ≤ (n : Int)) = false := by simp; omega
      have Hl := Lib.hid (show ((pu.take k).map (mvPu ⟨dx, dy⟩)).length ≤ 8 by simp; omega)
      generalize hacc : (pu.take k).map (mvPu ⟨dx, dy⟩) = acc at *
      have Hacc := Lib.hid hacc
      clear hacc
      go_upto_region 18 with fail
      refine name_world (fun W7 hW7 => ?_)
      have hl7 : Later wr W7 := by rw [hW7]; exact (by repeat' (with_reducible first | exact Later.refl _ | assumption | refine Later.drew ?_ | refine Later.drewN ?_ _ | refine Later.alloc ?_ _ | refine Later.put ?_ (by omega) _ | refine Later.trans ?_ (by assumption)))
      have D12 : Blk W7 wr.heap.size 90 #[.int .i64 n, .bool qf, .int .i64 qq, .int .i64 qx, .int .i64 qy] := by rw [hW7]; exact (by repeat' (with_reducible first | assumption | (refine Blk.newAt ?_; simp; done) | refine Blk.alloc ?_ _ | refine Blk.drew ?_ | refine Blk.drewN ?_ _ | refine Blk.later ?_ (by assumption)))
      have D13 : Blk W7 (wr.heap.size + 1) 92 #[.slice spa sps.length spc, .int .i64 sgr, .bool smt, .int .i64 sax, .int .i64 say] := by rw [hW7]; exact (by repeat' (with_reducible first | assumption | (refine Blk.newAt ?_; simp; done) | refine Blk.alloc ?_ _ | refine Blk.drew ?_ | refine Blk.drewN ?_ _ | refine Blk.later ?_ (by assumption)))
      clear hW7
      have r2 : W7.cell? ⟨wr.heap.size + 1, 2, none⟩ = some (.bool smt) := D13.cell 2
      have r3 : W7.cell? ⟨wr.heap.size + 1, 3, none⟩ = some (.int .i64 sax) := D13.cell 3
      have r4 : W7.cell? ⟨wr.heap.size + 1, 4, none⟩ = some (.int .i64 say) := D13.cell 4
      have q3 : W7.cell? ⟨wr.heap.size, 3, none⟩ = some (.int .i64 qx) := D12.cell 3
      have q4 : W7.cell? ⟨wr.heap.size, 4, none⟩ = some (.int .i64 qy) := D12.cell 4
      have w3f := D12.frozen 3
      have w4f := D12.frozen 4
      have u0 := hl7.cell u0
      have u1 := hl7.cell u1
      have z12 : wr.heap.size < W7.heap.size := D12.lt
      have z13 : wr.heap.size + 1 < W7.heap.size := D13.lt
      have z8 : g8 < W7.heap.size := World.block_lt_of_cell? _ _ u0
      have hne : g8 ≠ wr.heap.size := by omega
      clear e0 e1 e2 e3 e4 f0 f1 f2 f3 f4 c4 c5
      generalize hg12 : wr.heap.size = g12 at *
      have Hg12 := Lib.hid hg12
      clear hg12
      cases smt
      · skip
        by_cases b1 : 100000 < qx
        · have db1 : decide (100000 < qx) = true := by simpa using b1
          go_wp2_with (first | (go_at_call 34; (with_reducible refine (HX.out _).mono ?_); rintro e w10 ⟨rfl, hb10⟩))
          go_ret
          exact ⟨rfl, hlwr.trans (hl7.trans hb10)⟩
        have db1 : decide (100000 < qx) = false := by simpa using b1
        by_cases b2 : qx < -100000
        · have db2 : decide (qx < -100000) = true := by simpa using b2
          go_wp2_with (first | (go_at_call 34; (with_reducible refine (HX.out _).mono ?_); rintro e w10 ⟨rfl, hb10⟩))
          go_ret
          exact ⟨rfl, hlwr.trans (hl7.trans hb10)⟩
        have db2 : decide (qx < -100000) = false := by simpa using b2
        by_cases b3 : 100000 < qy
        · have db3 : decide (100000 < qy) = true := by simpa using b3
          go_wp2_with (first | (go_at_call 34; (with_reducible refine (HX.out _).mono ?_); rintro e w10 ⟨rfl, hb10⟩))
          go_ret
          exact ⟨rfl, hlwr.trans (hl7.trans hb10)⟩
        have db3 : decide (100000 < qy) = false := by simpa using b3
        by_cases b4 : qy < -100000
        · have db4 : decide (qy < -100000) = true := by simpa using b4
          go_wp2_with (first | (go_at_call 34; (with_reducible refine (HX.out _).mono ?_); rintro e w10 ⟨rfl, hb10⟩))
          go_ret
          exact ⟨rfl, hlwr.trans (hl7.trans hb10)⟩
        have db4 : decide (qy < -100000) = false := by simpa using b4
        have Hok := Lib.hid (show MvOk sh ⟨(n : Int), qf, qq, qx, qy⟩ from ⟨(fun hm => by rw [show (⟨(n : Int), qf, qq, qx, qy⟩ : Pu).sh.toNat = n by simp, Hgs.out] at hm ⊢; simp only [] at hm ⊢; cases hm), (by simp only []; omega)⟩)
        have v3 : IntKind.i64.wrap (qx + dx) = qx + dx := IntWalk.i64_in _ (by omega)
        have v4 : IntKind.i64.wrap (qy + dy) = qy + dy := IntWalk.i64_in _ (by omega)
        go_upto_region 23 with fail
        refine name_world (fun W6 hW6 => ?_)
        have hl6 : Later wr W6 := by rw [hW6]; exact ((hl7.put (by have := Hg12.out; omega) _).put (by have := Hg12.out; omega) _)
        have D6 : Blk W6 g12 90 #[.int .i64 n, .bool qf, .int .i64 qq, .int .i64 (qx + dx), .int .i64 (qy + dy)] := by rw [hW6]; exact (D12.set_ 3 _).set_ 4 _
        clear hW6
        have y0 : W6.cell? ⟨g12, 0, none⟩ = some (.int .i64 n) := D6.cell 0
        have y1 : W6.cell? ⟨g12, 1, none⟩ = some (.bool qf) := D6.cell 1
        have y2 : W6.cell? ⟨g12, 2, none⟩ = some (.int .i64 qq) := D6.cell 2
        have y3 : W6.cell? ⟨g12, 3, none⟩ = some (.int .i64 (qx + dx)) := D6.cell 3
        have y4 : W6.cell? ⟨g12, 4, none⟩ = some (.int .i64 (qy + dy)) := D6.cell 4
        have z12 : g12 < W6.heap.size := D6.lt
        have HS := Lib.hid (SrcAt.blk (Blk.new W6 90 #[.int .i64 n, .bool qf, .int .i64 qq, .int .i64 (qx + dx), .int .i64 (qy + dy)]))
        go_wp2_with (at_builtin; refine wpList_append_rec slt_put pu_cells pu_one rfl (.tmp 172) (.tmp 174) rfl (base := W9.heap.size) (l := acc) rfl (OwnR.alloc (Ho.out.later hl6) _) (A := some ⟨W6.heap.size, 0, none⟩) (c := 1) [⟨(n : Int), qf, qq, qx + dx, qy + dy⟩] rfl (by intro h; cases h) HS.out (by have := Hl.out; simp; omega) (by have := hb.size; have := hl6.size; simp; omega) ?_; intro A3 c3' w3 ho3 hg3)
        have hl3 : Later W9 w3 := Later.grown ((hb.trans hl6).alloc _) hg3 (fun g hg => (World.ownsRow.lt Ho.out g hg).1)
        clear hg3
        have Ho3 := Lib.hid ho3
        clear ho3
        simp only [List.length_append, List.length_singleton] at Ho3
        go_roundw
        case rel =>
          refine ⟨k + 1, by omega, by go_num, ?_, fun p hp => ?_, hl3⟩
          · rw [Htk.out, List.map_append, Hacc.out]; exact Ho3.out
          · rw [Htk.out] at hp
            rcases List.mem_append.1 hp with hp | hp
            · exact Hmv.out p hp
            · rw [List.mem_singleton.1 hp]; exact Hok.out
        case measure => simp [intOf]; omega
      · by_cases a1 : 1000 < sax
        · have da1 : decide (1000 < sax) = true := by simpa using a1
          go_wp2_with (first | (go_at_call 34; (with_reducible refine (HX.out _).mono ?_); rintro e w10 ⟨rfl, hb10⟩))
          go_ret
          exact ⟨rfl, hlwr.trans (hl7.trans hb10)⟩
        have da1 : decide (1000 < sax) = false := by simpa using a1
        by_cases a2 : sax < -1000
        · have da2 : decide (sax < -1000) = true := by simpa using a2
          go_wp2_with (first | (go_at_call 34; (with_reducible refine (HX.out _).mono ?_); rintro e w10 ⟨rfl, hb10⟩))
          go_ret
          exact ⟨rfl, hlwr.trans (hl7.trans hb10)⟩
        have da2 : decide (sax < -1000) = false := by simpa using a2
        by_cases a3 : 1000 < say
        · have da3 : decide (1000 < say) = true := by simpa using a3
          go_wp2_with (first | (go_at_call 34; (with_reducible refine (HX.out _).mono ?_); rintro e w10 ⟨rfl, hb10⟩))
          go_ret
          exact ⟨rfl, hlwr.trans (hl7.trans hb10)⟩
        have da3 : decide (1000 < say) = false := by simpa using a3
        by_cases a4 : say < -1000
        · have da4 : decide (say < -1000) = true := by simpa using a4
          go_wp2_with (first | (go_at_call 34; (with_reducible refine (HX.out _).mono ?_); rintro e w10 ⟨rfl, hb10⟩))
          go_ret
          exact ⟨rfl, hlwr.trans (hl7.trans hb10)⟩
        have da4 : decide (say < -1000) = false := by simpa using a4
        by_cases b1 : 100000 < qx
        · have db1 : decide (100000 < qx) = true := by simpa using b1
          go_wp2_with (first | (go_at_call 34; (with_reducible refine (HX.out _).mono ?_); rintro e w10 ⟨rfl, hb10⟩))
          go_ret
          exact ⟨rfl, hlwr.trans (hl7.trans hb10)⟩
        have db1 : decide (100000 < qx) = false := by simpa using b1
        by_cases b2 : qx < -100000
        · have db2 : decide (qx < -100000) = true := by simpa using b2
          go_wp2_with (first | (go_at_call 34; (with_reducible refine (HX.out _).mono ?_); rintro e w10 ⟨rfl, hb10⟩))
          go_ret
          exact ⟨rfl, hlwr.trans (hl7.trans hb10)⟩
        have db2 : decide (qx < -100000) = false := by simpa using b2
        by_cases b3 : 100000 < qy
        · have db3 : decide (100000 < qy) = true := by simpa using b3
          go_wp2_with (first | (go_at_call 34; (with_reducible refine (HX.out _).mono ?_); rintro e w10 ⟨rfl, hb10⟩))
          go_ret
          exact ⟨rfl, hlwr.trans (hl7.trans hb10)⟩
        have db3 : decide (100000 < qy) = false := by simpa using b3
        by_cases b4 : qy < -100000
        · have db4 : decide (qy < -100000) = true := by simpa using b4
          go_wp2_with (first | (go_at_call 34; (with_reducible refine (HX.out _).mono ?_); rintro e w10 ⟨rfl, hb10⟩))
          go_ret
          exact ⟨rfl, hlwr.trans (hl7.trans hb10)⟩
        have db4 : decide (qy < -100000) = false := by simpa using b4
        have Hok := Lib.hid (show MvOk sh ⟨(n : Int), qf, qq, qx, qy⟩ from ⟨(fun hm => by rw [show (⟨(n : Int), qf, qq, qx, qy⟩ : Pu).sh.toNat = n by simp, Hgs.out] at hm ⊢; simp only [] at hm ⊢; omega), (by simp only []; omega)⟩)
        have v3 : IntKind.i64.wrap (qx + dx) = qx + dx := IntWalk.i64_in _ (by omega)
        have v4 : IntKind.i64.wrap (qy + dy) = qy + dy := IntWalk.i64_in _ (by omega)
        go_upto_region 23 with fail
        refine name_world (fun W6 hW6 => ?_)
        have hl6 : Later wr W6 := by rw [hW6]; exact ((hl7.put (by have := Hg12.out; omega) _).put (by have := Hg12.out; omega) _)
        have D6 : Blk W6 g12 90 #[.int .i64 n, .bool qf, .int .i64 qq, .int .i64 (qx + dx), .int .i64 (qy + dy)] := by rw [hW6]; exact (D12.set_ 3 _).set_ 4 _
        clear hW6
        have y0 : W6.cell? ⟨g12, 0, none⟩ = some (.int .i64 n) := D6.cell 0
        have y1 : W6.cell? ⟨g12, 1, none⟩ = some (.bool qf) := D6.cell 1
        have y2 : W6.cell? ⟨g12, 2, none⟩ = some (.int .i64 qq) := D6.cell 2
        have y3 : W6.cell? ⟨g12, 3, none⟩ = some (.int .i64 (qx + dx)) := D6.cell 3
        have y4 : W6.cell? ⟨g12, 4, none⟩ = some (.int .i64 (qy + dy)) := D6.cell 4
        have z12 : g12 < W6.heap.size := D6.lt
        have HS := Lib.hid (SrcAt.blk (Blk.new W6 90 #[.int .i64 n, .bool qf, .int .i64 qq, .int .i64 (qx + dx), .int .i64 (qy + dy)]))
        go_wp2_with (at_builtin; refine wpList_append_rec slt_put pu_cells pu_one rfl (.tmp 172) (.tmp 174) rfl (base := W9.heap.size) (l := acc) rfl (OwnR.alloc (Ho.out.later hl6) _) (A := some ⟨W6.heap.size, 0, none⟩) (c := 1) [⟨(n : Int), qf, qq, qx + dx, qy + dy⟩] rfl (by intro h; cases h) HS.out (by have := Hl.out; simp; omega) (by have := hb.size; have := hl6.size; simp; omega) ?_; intro A3 c3' w3 ho3 hg3)
        have hl3 : Later W9 w3 := Later.grown ((hb.trans hl6).alloc _) hg3 (fun g hg => (World.ownsRow.lt Ho.out g hg).1)
        clear hg3
        have Ho3 := Lib.hid ho3
        clear ho3
        simp only [List.length_append, List.length_singleton] at Ho3
        go_roundw
        case rel =>
          refine ⟨k + 1, by omega, by go_num, ?_, fun p hp => ?_, hl3⟩
          · rw [Htk.out, List.map_append, Hacc.out]; exact Ho3.out
          · rw [Htk.out] at hp
            rcases List.mem_append.1 hp with hp | hp
            · exact Hmv.out p hp
            · rw [List.mem_singleton.1 hp]; exact Hok.out
        case measure => simp [intOf]; omega
    · have hke : k = pu.length := by omega
      rw [hke, List.take_length] at Ho Hmv
      have hz := HMV.out ⟨dx, dy⟩ (by simp only []; omega) HP.out.1 HP.out.2 Hmv.out
      obtain ⟨A6, c6, e6, _⟩ := Ho.out.form pu_cells
      subst e6
      obtain ⟨_, hcap6, _, hP6⟩ := OwnR.list (ok := PuOk) pu_cells Ho.out (fun p hp => by
        obtain ⟨q, hq, rfl⟩ := List.mem_map.1 hp
        obtain ⟨j, hj, rfl⟩ := List.getElem_of_mem hq
        obtain ⟨_, _, _, _, _, _, _, _, j1, j2, j3, j4⟩ := hpu.at_ hj
        have := (Hmv.out _ hq).2
        exact ⟨j1, j2, by unfold I64 mvPu at *; simp only [] at *; omega, by unfold I64 mvPu at *; simp only [] at *; omega⟩)
      have HC1 := Lib.hid (fun W (hW : Later wr W) => HC.out ⟨bl + dx, bw + dy, rx, ry⟩ A6 c6 (pu.map (mvPu ⟨dx, dy⟩)) W (hlwr.trans hW) (Puts.later hP6 hW) hcap6)
      rw [hz] at HC1
      unfold Bd.agg at HC1
      simp only [List.length_map] at HC1
      rw [List.length_map]
      have x0 := hb.cell x0
      have x1 := hb.cell x1
      have x2 := hb.cell x2
      have x3 := hb.cell x3
      clear hP6 hcap6 hz Ho
      go_wp2_with (first | (go_at_call 36; (with_reducible refine (HC1.out _ (Later.refl _)).mono ?_); rintro e w8 ⟨rfl, hb8⟩) | (go_at_call 34; (with_reducible refine (HX.out _).mono ?_); rintro e w10 ⟨rfl, hb10⟩))
      go_ret
      exact ⟨rfl, hlwr.trans (hb8.trans hb10)⟩

set_option maxHeartbeats 4000000 in
set_option maxRecDepth 100000 in
theorem law30_PlaceMoves_out (hex : ∀ W, Calls Try.prog 34 #[] W (Ret (.bool true) W)) (c : Cs) (x y : Nat) (w : World) (hc : CsOk w c)
    (h : (fewCs c && pcheckR c.b c.sh c.pu == 0) = false ∨ 1000 < c.b.l ∨ 1000 < c.b.w) :
    Calls Try.prog 12 #[c.agg, .int .u8 x, .int .u8 y] w (Ret (.bool true) w) := by
  have HX := Lib.hid hex
  have HV := Lib.hid (fun W (hW : Later w W) => law30_valid c W (hc.later hW))
  unfold Cs.agg at HV ⊢
  obtain ⟨⟨bl, bw, rx, ry⟩, sa, sc, sh, pa, pc, pu⟩ := c
  simp only [] at HV h ⊢
  generalize (fewCs ⟨⟨bl, bw, rx, ry⟩, sa, sc, sh, pa, pc, pu⟩ && pcheckR ⟨bl, bw, rx, ry⟩ sh pu == 0) = vb at *
  clear hc
  go_enter Try.func12, Try.ntmps12
  cases vb
  · go_wp2_with (first | (go_at_call 33; (with_reducible refine (HV.out _ (by repeat' (with_reducible first | exact Later.refl _ | assumption | refine Later.drew ?_ | refine Later.drewN ?_ _ | refine Later.alloc ?_ _ | refine Later.put ?_ (by omega) _ | refine Later.trans ?_ (by assumption)))).mono ?_); rintro e w1 ⟨rfl, hb1⟩) | (go_at_call 34; (with_reducible refine (HX.out _).mono ?_); rintro e w9 ⟨rfl, hb9⟩))
    go_ret
    exact ⟨rfl, (by repeat' (with_reducible first | exact Later.refl _ | assumption | refine Later.drew ?_ | refine Later.drewN ?_ _ | refine Later.alloc ?_ _ | refine Later.put ?_ (by omega) _ | refine Later.trans ?_ (by assumption)))⟩
  by_cases h1 : 1000 < bl
  · have d1 : decide (1000 < bl) = true := by simpa using h1
    go_wp2_with (first | (go_at_call 33; (with_reducible refine (HV.out _ (by repeat' (with_reducible first | exact Later.refl _ | assumption | refine Later.drew ?_ | refine Later.drewN ?_ _ | refine Later.alloc ?_ _ | refine Later.put ?_ (by omega) _ | refine Later.trans ?_ (by assumption)))).mono ?_); rintro e w1 ⟨rfl, hb1⟩; have c0 : w1.cell? ⟨w.heap.size, 0, none⟩ = some (.int .i64 bl) := hb1.cell (by simp [go_sem]); have c1 : w1.cell? ⟨w.heap.size, 1, none⟩ = some (.int .i64 bw) := hb1.cell (by simp [go_sem])) | (go_at_call 34; (with_reducible refine (HX.out _).mono ?_); rintro e w9 ⟨rfl, hb9⟩))
    go_ret
    exact ⟨rfl, (by repeat' (with_reducible first | exact Later.refl _ | assumption | refine Later.drew ?_ | refine Later.drewN ?_ _ | refine Later.alloc ?_ _ | refine Later.put ?_ (by omega) _ | refine Later.trans ?_ (by assumption)))⟩
  · have d1 : decide (1000 < bl) = false := by simpa using h1
    have h2 : 1000 < bw := by
      rcases h with h | h | h
      · cases h
      · exact absurd h h1
      · exact h
    have d2 : decide (1000 < bw) = true := by simpa using h2
    go_wp2_with (first | (go_at_call 33; (with_reducible refine (HV.out _ (by repeat' (with_reducible first | exact Later.refl _ | assumption | refine Later.drew ?_ | refine Later.drewN ?_ _ | refine Later.alloc ?_ _ | refine Later.put ?_ (by omega) _ | refine Later.trans ?_ (by assumption)))).mono ?_); rintro e w1 ⟨rfl, hb1⟩; have c0 : w1.cell? ⟨w.heap.size, 0, none⟩ = some (.int .i64 bl) := hb1.cell (by simp [go_sem]); have c1 : w1.cell? ⟨w.heap.size, 1, none⟩ = some (.int .i64 bw) := hb1.cell (by simp [go_sem])) | (go_at_call 34; (with_reducible refine (HX.out _).mono ?_); rintro e w9 ⟨rfl, hb9⟩))
    go_ret
    exact ⟨rfl, (by repeat' (with_reducible first | exact Later.refl _ | assumption | refine Later.drew ?_ | refine Later.drewN ?_ _ | refine Later.alloc ?_ _ | refine Later.put ?_ (by omega) _ | refine Later.trans ?_ (by assumption)))⟩

set_option maxHeartbeats 4000000 in
set_option maxRecDepth 100000 in
theorem law30_PlaceMoves_rep (hex : ∀ W, Calls Try.prog 34 #[] W (Ret (.bool true) W)) (c : Cs) (x y : Nat) (w : World) (hc : CsOk w c)
    (hv : (fewCs c && pcheckR c.b c.sh c.pu == 0) = true) (hbl : c.b.l ≤ 1000) (hbw : c.b.w ≤ 1000) (h : (250 < c.b.rx ∧ c.b.rx ≤ 1048576) ∨ (250 < c.b.ry ∧ c.b.ry ≤ 1048576)) :
    Calls Try.prog 12 #[c.agg, .int .u8 x, .int .u8 y] w (Ret (.bool true) w) := by
  have HX := Lib.hid hex
  have HV := Lib.hid (fun W (hW : Later w W) => law30_valid c W (hc.later hW))
  rw [hv] at HV
  unfold Cs.agg at HV ⊢
  obtain ⟨⟨bl, bw, rx, ry⟩, sa, sc, sh, pa, pc, pu⟩ := c
  simp only [] at HV h hbl hbw ⊢
  have d1 : decide (1000 < bl) = false := by simp; omega
  have d2 : decide (1000 < bw) = false := by simp; omega
  clear hc hv
  go_enter Try.func12, Try.ntmps12
  go_upto_region 4 with (first | (go_at_call 33; (with_reducible refine (HV.out _ (by repeat' (with_reducible first | exact Later.refl _ | assumption | refine Later.drew ?_ | refine Later.drewN ?_ _ | refine Later.alloc ?_ _ | refine Later.put ?_ (by omega) _ | refine Later.trans ?_ (by assumption)))).mono ?_); rintro e w1 ⟨rfl, hb1⟩; have c0 : w1.cell? ⟨w.heap.size, 0, none⟩ = some (.int .i64 bl) := hb1.cell (by simp [go_sem]); have c1 : w1.cell? ⟨w.heap.size, 1, none⟩ = some (.int .i64 bw) := hb1.cell (by simp [go_sem]); have c2 : w1.cell? ⟨w.heap.size, 2, none⟩ = some (.int .i64 rx) := hb1.cell (by simp [go_sem]); have c3 : w1.cell? ⟨w.heap.size, 3, none⟩ = some (.int .i64 ry) := hb1.cell (by simp [go_sem])))
  refine name_world (fun W2 hW2 => ?_)
  have hl2 : Later w1 W2 := by rw [hW2]; exact (by repeat' (with_reducible first | exact Later.refl _ | assumption | refine Later.drew ?_ | refine Later.drewN ?_ _ | refine Later.alloc ?_ _ | refine Later.put ?_ (by omega) _ | refine Later.trans ?_ (by assumption)))
  have t0 : W2.cell? ⟨w1.heap.size, 0, none⟩ = some (.int .i64 rx) := by rw [hW2]; simp [go_sem]
  have t1 : W2.cell? ⟨w1.heap.size, 1, none⟩ = some (.int .i64 ry) := by rw [hW2]; simp [go_sem]
  have hlw : Later w W2 := Later.trans (by repeat' (with_reducible first | exact Later.refl _ | assumption | refine Later.drew ?_ | refine Later.drewN ?_ _ | refine Later.alloc ?_ _ | refine Later.put ?_ (by omega) _ | refine Later.trans ?_ (by assumption))) hl2
  clear hW2 hl2 hb1 c0 c1 c2 c3
  generalize w1.heap.size = g7 at *
  go_cut [50] (fun v wx => v = .bool true ∧ W2 = wx)
  case first =>
    by_cases hx1 : 250 < rx
    · have e1 : decide (250 < rx) = true := by simpa using hx1
      by_cases hx2 : rx ≤ 1048576
      · have e2 : decide (rx ≤ 1048576) = true := by simpa using hx2
        go_wp2_with fail
        go_meet
        exact ⟨rfl, rfl⟩
      · have e2 : decide (rx ≤ 1048576) = false := by simpa using hx2
        have e3 : decide (250 < ry) = true := by simp; omega
        have e4 : decide (ry ≤ 1048576) = true := by simp; omega
        go_wp2_with fail
        go_meet
        exact ⟨rfl, rfl⟩
    · have e1 : decide (250 < rx) = false := by simpa using hx1
      have e3 : decide (250 < ry) = true := by simp; omega
      have e4 : decide (ry ≤ 1048576) = true := by simp; omega
      go_wp2_with fail
      go_meet
      exact ⟨rfl, rfl⟩
  case rest =>
  obtain ⟨rfl, rfl⟩ := hcut
  go_wp2_with (first | (go_at_call 34; (with_reducible refine (HX.out _).mono ?_); rintro e w9 ⟨rfl, hb9⟩))
  go_ret
  exact ⟨rfl, hlw.trans hb9⟩

theorem law30_PlaceMoves (hex : ∀ W, Calls Try.prog 34 #[] W (Ret (.bool true) W)) (c : Cs) (x y : Nat) (w : World) (hc : CsOk w c) (hx : x ≤ 255) (hy : y ≤ 255) :
    Calls Try.prog 12 #[c.agg, .int .u8 x, .int .u8 y] w (Ret (.bool true) w) := by
  by_cases h : (fewCs c && pcheckR c.b c.sh c.pu == 0) = false ∨ 1000 < c.b.l ∨ 1000 < c.b.w
  · exact law30_PlaceMoves_out hex c x y w hc h
  · have hv : (fewCs c && pcheckR c.b c.sh c.pu == 0) = true := by
      rcases hb : (fewCs c && pcheckR c.b c.sh c.pu == 0) with _ | _
      · exact absurd (.inl hb) h
      · rfl
    by_cases h2 : (250 < c.b.rx ∧ c.b.rx ≤ 1048576) ∨ (250 < c.b.ry ∧ c.b.ry ≤ 1048576)
    · exact law30_PlaceMoves_rep hex c x y w hc hv (by omega) (by omega) h2
    · have hv' := hv
      rw [Bool.and_eq_true, beq_iff_eq] at hv'
      exact law30_PlaceMoves_in hex c x y w hc hx hy hv'.1 hv'.2 (by omega) (by omega) (by omega) (by omega)

end Go.Proofs.Ytinjdlnikhcbfaa
