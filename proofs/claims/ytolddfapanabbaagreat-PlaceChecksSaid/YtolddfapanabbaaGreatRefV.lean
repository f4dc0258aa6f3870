/-
  The reference of layer 28 (places within a repeat), and the small functions of layer 30.
-/
import Derived.Test.YtolddfapanabbaaGreatRefU
import Derived.Test.YtolddfapanabbaaGreatFits
namespace Go.Proofs.YtolddfapanabbaaGreat
open Go.RowKit
set_option linter.unusedSimpArgs false
set_option linter.unusedVariables false

/- Layer 28. -/
set_option maxHeartbeats 400000 in
theorem ref28_norm (n : Int) (w : World) : Calls Tryz.prog 96 #[.int .i64 n] w (Pure (.int .i64 (periodI n)) w) := by
  go_enter Tryz.func96, Tryz.ntmps96
  by_cases h : n < 1
  · have d1 : decide (n < 1) = true := by simpa using h
    have H := Lib.hid (show periodI n = 0 by unfold periodI; rw [if_pos (.inl h)])
    go_wp2
    go_ret
    exact ⟨ret_int H.out.symm, rfl⟩
  · have d1 : decide (n < 1) = false := by simpa using h
    by_cases h2 : 1048576 < n
    · have d2 : decide (1048576 < n) = true := by simpa using h2
      have H := Lib.hid (show periodI n = 0 by unfold periodI; rw [if_pos (.inr h2)])
      go_wp2
      go_ret
      exact ⟨ret_int H.out.symm, rfl⟩
    · have d2 : decide (1048576 < n) = false := by simpa using h2
      have H := Lib.hid (show periodI n = n by unfold periodI; rw [if_neg (by omega)])
      go_wp2
      go_ret
      exact ⟨ret_int H.out.symm, rfl⟩
attribute [local go_sem] ite_min ite_max
set_option maxHeartbeats 400000 in
theorem ref28_within (n : Int) (w : World) : Calls Tryz.prog 97 #[.int .i64 n] w (Pure (.int .i64 (limI n)) w) := by
  go_enter Tryz.func97, Tryz.ntmps97
  go_wp2
  go_ret
  exact ⟨ret_int (by unfold limI; omega), rfl⟩
theorem mod_form {n p : Int} (hp : 0 < p) : modI n p = if n.tmod p < 0 then n.tmod p + p else n.tmod p := by
  unfold modI
  rw [if_neg (by omega)]
  have h := tmod_bd (n := n) hp
  generalize n.tmod p = t at *
  rw [Int.tmod_eq_emod_of_nonneg (by omega)]
  split
  · exact Int.emod_eq_of_lt (by omega) (by omega)
  · rw [Int.add_emod_right]
    exact Int.emod_eq_of_lt (by omega) (by omega)
set_option maxHeartbeats 1000000 in
theorem ref28_phase (by_ n : Int) (w : World) : Calls Tryz.prog 80 #[.int .i64 by_, .int .i64 n] w (Pure (.int .i64 (modI (limI n) (periodI by_))) w) := by
  have HN := Lib.hid (fun W => ref28_norm by_ W)
  have HL := Lib.hid (fun W => ref28_within n W)
  by_cases h0 : periodI by_ = 0
  · rw [h0] at HN ⊢
    have H := Lib.hid (show modI (limI n) 0 = 0 by unfold modI; rw [if_pos rfl])
    generalize modI (limI n) 0 = r at *
    go_enter Tryz.func80, Tryz.ntmps80
    go_wp2_with (first | (go_at_call 96; (with_reducible refine (HN.out _).mono ?_); rintro e w1 ⟨rfl, rfl⟩))
    go_ret
    exact ⟨ret_int H.out.symm, rfl⟩
  · have hb : periodI by_ = by_ ∧ 1 ≤ by_ ∧ by_ ≤ 1048576 := by
      unfold periodI at h0 ⊢
      split
      · rename_i h; rw [if_pos h] at h0; exact absurd rfl h0
      · omega
    rw [hb.1] at HN ⊢
    have hl := lim_bd n
    have hf := mod_form (n := limI n) (p := by_) (by omega)
    have hbd := tmod_bd (n := limI n) (p := by_) (by omega)
    have Hf := Lib.hid hf
    generalize limI n = m at *
    have e0 : (by_ == 0) = false := by simp; omega
    have e1 : ¬ by_ = 0 := by omega
    have hw : IntKind.i64.wrap (m.tmod by_ + by_) = m.tmod by_ + by_ := IntWalk.i64_in _ (by omega)
    clear h0 hf
    by_cases hneg : m.tmod by_ < 0
    · have d : decide (m.tmod by_ < 0) = true := by simpa using hneg
      go_enter Tryz.func80, Tryz.ntmps80
      go_wp2_with (first | (go_at_call 96; (with_reducible refine (HN.out _).mono ?_); rintro e w1 ⟨rfl, rfl⟩) | (go_at_call 97; (with_reducible refine (HL.out _).mono ?_); rintro e w2 ⟨rfl, rfl⟩))
      go_ret
      exact ⟨ret_int (by rw [Hf.out, if_pos hneg]), rfl⟩
    · have d : decide (m.tmod by_ < 0) = false := by simpa using hneg
      go_enter Tryz.func80, Tryz.ntmps80
      go_wp2_with (first | (go_at_call 96; (with_reducible refine (HN.out _).mono ?_); rintro e w1 ⟨rfl, rfl⟩) | (go_at_call 97; (with_reducible refine (HL.out _).mono ?_); rintro e w2 ⟨rfl, rfl⟩))
      go_ret
      exact ⟨ret_int (by rw [Hf.out, if_neg (Int.not_lt.2 hneg)]), rfl⟩

set_option maxHeartbeats 2000000 in
set_option maxRecDepth 100000 in
theorem ref28_Phase (a b x y : Int) (w : World) : Calls Tryz.prog 56 #[.agg #[.int .i64 a, .int .i64 b], .agg #[.int .i64 x, .int .i64 y]] w (Ret (ptV (phP a b ⟨x, y⟩)) w) := by
  have Hm1 := Lib.hid (fun W => ref28_phase a x W)
  have Hm2 := Lib.hid (fun W => ref28_phase b y W)
  unfold ptV phP
  simp only []
  generalize modI (limI x) (periodI a) = m1 at *
  generalize modI (limI y) (periodI b) = m2 at *
  go_enter Tryz.func56, Tryz.ntmps56
  go_wp2
  refine name_world (fun W hW => ?_)
  have hl : Later w W := by rw [hW]; exact (by repeat' (with_reducible first | exact Later.refl _ | assumption | refine Later.drew ?_ | refine Later.drewN ?_ _ | refine Later.alloc ?_ _ | refine Later.put ?_ (by omega) _ | refine Later.trans ?_ (by assumption)))
  have C0 : Blk W w.heap.size 23 #[.int .i64 a, .int .i64 b] := by rw [hW]; exact (by repeat' (with_reducible first | assumption | (refine Blk.newAt ?_; simp; done) | refine Blk.alloc ?_ _ | refine Blk.drew ?_ | refine Blk.drewN ?_ _ | refine Blk.later ?_ (by assumption)))
  have C1 : Blk W (w.heap.size + 1) 37 #[.int .i64 x, .int .i64 y] := by rw [hW]; exact (by repeat' (with_reducible first | assumption | (refine Blk.newAt ?_; simp; done) | refine Blk.alloc ?_ _ | refine Blk.drew ?_ | refine Blk.drewN ?_ _ | refine Blk.later ?_ (by assumption)))
  have C2 : Blk W (w.heap.size + 1 + 1) 37 #[.int .i64 0, .int .i64 0] := by rw [hW]; exact (by repeat' (with_reducible first | assumption | (refine Blk.newAt ?_; simp; done) | refine Blk.alloc ?_ _ | refine Blk.drew ?_ | refine Blk.drewN ?_ _ | refine Blk.later ?_ (by assumption)))
  have c0 : W.cell? ⟨w.heap.size, 0, none⟩ = some (.int .i64 a) := C0.cell 0
  have c1 : W.cell? ⟨w.heap.size, 1, none⟩ = some (.int .i64 b) := C0.cell 1
  have d0 : W.cell? ⟨w.heap.size + 1, 0, none⟩ = some (.int .i64 x) := C1.cell 0
  have d1 : W.cell? ⟨w.heap.size + 1, 1, none⟩ = some (.int .i64 y) := C1.cell 1
  have r0 : W.cell? ⟨w.heap.size + 1 + 1, 0, none⟩ = some (.int .i64 0) := C2.cell 0
  have r1 : W.cell? ⟨w.heap.size + 1 + 1, 1, none⟩ = some (.int .i64 0) := C2.cell 1
  have f0 := C2.frozen 0
  have f1 := C2.frozen 1
  clear hW
  refine wp_region_still_tail 11 (by kernel_rfl) (by kernel_rfl) ?_
  simp only [List.take_succ_cons, List.take_zero, List.drop_succ_cons, List.drop_zero]
  repeat (first | still_step | (refine wpStill_step (fun K hK => ?_); go_simp; (with_reducible refine ⟨_, still_of (Hm1.out _), hK _ ?_⟩); clear hK K) | (refine wpStill_step (fun K hK => ?_); go_simp; (with_reducible refine ⟨_, still_of (Hm2.out _), hK _ ?_⟩); clear hK K))
  (try refine wpStill_nil ?_)
  change wpList _ _ _ _ _ W.drew
  go_wp2
  refine bodyPost_ret (v := .agg #[.int .i64 m1, .int .i64 m2]) (by simp [results, Tryz.results56, go_sem, r0, r1]) rfl ⟨rfl, ?_⟩
  exact (hl.put (by omega) _ |>.put (by omega) _).drew

set_option maxHeartbeats 2000000 in
theorem ref28_Same (a b x y z v : Int) (w : World) : Calls Tryz.prog 42 #[.agg #[.int .i64 a, .int .i64 b], .agg #[.int .i64 x, .int .i64 y], .agg #[.int .i64 z, .int .i64 v]] w (Ret (.bool (sameP a b ⟨x, y⟩ ⟨z, v⟩)) w) := by
  have H1 := Lib.hid (fun W => ref28_Phase a b x y W)
  have H2 := Lib.hid (fun W => ref28_Phase a b z v W)
  unfold sameP
  unfold ptV at H1 H2
  generalize phP a b ⟨x, y⟩ = p at *
  generalize phP a b ⟨z, v⟩ = q at *
  obtain ⟨px, py⟩ := p
  obtain ⟨qx, qy⟩ := q
  simp only [] at H1 H2
  have hq := eql_spot px py qx qy
  go_enter Tryz.func42, Tryz.ntmps42
  go_wp2
  refine name_world (fun W hW => ?_)
  have hl : Later w W := by rw [hW]; exact (by repeat' (with_reducible first | exact Later.refl _ | assumption | refine Later.drew ?_ | refine Later.drewN ?_ _ | refine Later.alloc ?_ _ | refine Later.put ?_ (by omega) _ | refine Later.trans ?_ (by assumption)))
  have B0 : Blk W w.heap.size 23 #[.int .i64 a, .int .i64 b] := by rw [hW]; exact (by repeat' (with_reducible first | assumption | (refine Blk.newAt ?_; simp; done) | refine Blk.alloc ?_ _ | refine Blk.drew ?_ | refine Blk.drewN ?_ _ | refine Blk.later ?_ (by assumption)))
  have B1 : Blk W (w.heap.size + 1) 37 #[.int .i64 x, .int .i64 y] := by rw [hW]; exact (by repeat' (with_reducible first | assumption | (refine Blk.newAt ?_; simp; done) | refine Blk.alloc ?_ _ | refine Blk.drew ?_ | refine Blk.drewN ?_ _ | refine Blk.later ?_ (by assumption)))
  have B2 : Blk W (w.heap.size + 1 + 1) 37 #[.int .i64 z, .int .i64 v] := by rw [hW]; exact (by repeat' (with_reducible first | assumption | (refine Blk.newAt ?_; simp; done) | refine Blk.alloc ?_ _ | refine Blk.drew ?_ | refine Blk.drewN ?_ _ | refine Blk.later ?_ (by assumption)))
  have c0 : W.cell? ⟨w.heap.size, 0, none⟩ = some (.int .i64 a) := B0.cell 0
  have c1 : W.cell? ⟨w.heap.size, 1, none⟩ = some (.int .i64 b) := B0.cell 1
  have d0 : W.cell? ⟨w.heap.size + 1, 0, none⟩ = some (.int .i64 x) := B1.cell 0
  have d1 : W.cell? ⟨w.heap.size + 1, 1, none⟩ = some (.int .i64 y) := B1.cell 1
  have r0 : W.cell? ⟨w.heap.size + 1 + 1, 0, none⟩ = some (.int .i64 z) := B2.cell 0
  have r1 : W.cell? ⟨w.heap.size + 1 + 1, 1, none⟩ = some (.int .i64 v) := B2.cell 1
  clear hW B0 B1 B2
  go_region_held3 (fun w' : World => (∀ a : Addr, (W.cell? a).isSome = true → w'.cell? a = W.cell? a) ∧ Later W w') (first | assumption | exact keep_call (by assumption) (by assumption) | exact keep_call (by assumption) ((Later.refl _).alloc _) | exact keep_init _)
    (first | (go_at_call 56; (with_reducible refine (H1.out _).mono ?_); rintro e w1 ⟨rfl, hb1⟩) | (go_at_call 56; (with_reducible refine (H2.out _).mono ?_); rintro e w1 ⟨rfl, hb1⟩))
  all_goals
    rename_i hHw
    go_wp2
    go_ret
    exact ⟨rfl, hl.trans hHw.2⟩

/- The small functions of layer 30. -/
def coordR (n : Int) : Bool := decide (n ≥ -1048576) && decide (n ≤ 1048576)
set_option maxHeartbeats 400000 in
theorem ref30_Coord (n : Int) (w : World) : Calls Tryz.prog 53 #[.int .i64 n] w (Pure (.bool (coordR n)) w) := by
  unfold coordR
  go_enter Tryz.func53, Tryz.ntmps53
  go_wp2
  all_goals
    go_ret
    exact ⟨ret_bool (by rw [Bool.eq_iff_iff]; simp; try omega), rfl⟩
theorem near_coord (x y : Int) : (coordR x && coordR y) = !outsideB x y := by
  unfold coordR outsideB
  rw [Bool.eq_iff_iff]
  simp
  omega
set_option maxHeartbeats 1000000 in
theorem ref30_Near (x y : Int) (w : World) : Calls Tryz.prog 36 #[.agg #[.int .i64 x, .int .i64 y]] w (Ret (.bool (!outsideB x y)) w) := by
  rw [← near_coord]
  have H1 := Lib.hid (fun W => ref30_Coord x W)
  have H2 := Lib.hid (fun W => ref30_Coord y W)
  generalize coordR y = cy at *
  cases hx : coordR x
  · rw [hx] at H1
    go_enter Tryz.func36, Tryz.ntmps36
    go_wp2_with (first | (go_at_call 53; (with_reducible refine (H1.out _).mono ?_); rintro e w1 ⟨rfl, rfl⟩))
    go_ret
    exact ⟨rfl, (by repeat' (with_reducible first | exact Later.refl _ | assumption | refine Later.drew ?_ | refine Later.drewN ?_ _ | refine Later.alloc ?_ _ | refine Later.put ?_ (by omega) _ | refine Later.trans ?_ (by assumption)))⟩
  · rw [hx] at H1
    go_enter Tryz.func36, Tryz.ntmps36
    go_wp2_with (first | (go_at_call 53; (with_reducible refine (H1.out _).mono ?_); rintro e w1 ⟨rfl, rfl⟩) | (go_at_call 53; (with_reducible refine (H2.out _).mono ?_); rintro e w1 ⟨rfl, rfl⟩))
    go_ret
    exact ⟨rfl, (by repeat' (with_reducible first | exact Later.refl _ | assumption | refine Later.drew ?_ | refine Later.drewN ?_ _ | refine Later.alloc ?_ _ | refine Later.put ?_ (by omega) _ | refine Later.trans ?_ (by assumption)))⟩
def soundB (b : Bd) : Bool := decide (1 ≤ b.l) && (decide (b.l ≤ 1048576) && (decide (1 ≤ b.w) && decide (b.w ≤ 1048576)))
set_option maxHeartbeats 1000000 in
theorem ref30_Sound (b : Bd) (w : World) : Calls Tryz.prog 22 #[b.agg] w (Ret (.bool (soundB b)) w) := by
  obtain ⟨bl, bw, rx, ry⟩ := b
  unfold Bd.agg soundB
  simp only []
  go_enter Tryz.func22, Tryz.ntmps22
  go_wp2
  all_goals
    go_ret
    exact ⟨ret_bool (by rw [Bool.eq_iff_iff]; simp; try omega), (by repeat' (with_reducible first | exact Later.refl _ | assumption | refine Later.drew ?_ | refine Later.drewN ?_ _ | refine Later.alloc ?_ _ | refine Later.put ?_ (by omega) _ | refine Later.trans ?_ (by assumption)))⟩
theorem sound_yes {b : Bd} (h : ¬ (b.l < 1 ∨ 1048576 < b.l ∨ b.w < 1 ∨ 1048576 < b.w)) : soundB b = true := by unfold soundB; simp; omega
theorem sound_no {b : Bd} (h : b.l < 1 ∨ 1048576 < b.l ∨ b.w < 1 ∨ 1048576 < b.w) : soundB b = false := by unfold soundB; rw [← Bool.not_eq_true]; simp; omega

set_option maxHeartbeats 4000000 in
theorem ref30_On (b : Bd) (A : Option Addr) (c : Nat) (ps : List Pt) (w : World) (hn : ps.length ≤ 65536) (hp : Pts w A ps) :
    Calls Tryz.prog 25 #[b.agg, .slice A ps.length c] w (Ret (.bool (onGo b.l b.w ps)) w) := by
  obtain ⟨bl, bw, rx, ry⟩ := b
  unfold Bd.agg
  simp only []
  go_enter Tryz.func25, Tryz.ntmps25
  go_wp2
  refine name_world (fun W hW => ?_)
  have hl : Later w W := by rw [hW]; exact (by repeat' (with_reducible first | exact Later.refl _ | assumption | refine Later.drew ?_ | refine Later.drewN ?_ _ | refine Later.alloc ?_ _ | refine Later.put ?_ (by omega) _ | refine Later.trans ?_ (by assumption)))
  have B0 : Blk W w.heap.size 25 #[.int .i64 bl, .int .i64 bw, .int .i64 rx, .int .i64 ry] := by rw [hW]; exact (by repeat' (with_reducible first | assumption | (refine Blk.newAt ?_; simp; done) | refine Blk.alloc ?_ _ | refine Blk.drew ?_ | refine Blk.drewN ?_ _ | refine Blk.later ?_ (by assumption)))
  clear hW
  have hpW := hp.later hl
  generalize w.heap.size = N at *
  go_loopw [4, 5] (fun _ iv wr => ∃ k : Nat, k ≤ ps.length ∧ iv = .int .i64 k ∧ Later W wr ∧ onGo bl bw ps = onGo bl bw (ps.drop k)) (fun _ iv _ => ps.length - (intOf iv).toNat)
  case atStart => exact ⟨0, by omega, rfl, Later.refl _, rfl⟩
  case round =>
    obtain ⟨k, hk, rfl, hb, he⟩ := hrel
    have He := Lib.hid he
    clear he
    have C0 := B0.later hb
    have c0 : wr.cell? ⟨N, 0, none⟩ = some (.int .i64 bl) := C0.cell 0
    have c1 : wr.cell? ⟨N, 1, none⟩ = some (.int .i64 bw) := C0.cell 1
    by_cases hlt : k < ps.length
    · obtain ⟨bb, o, rfl, e1, e2⟩ := (hpW.later hb).at_ hlt
      have hbz : bb < wr.heap.size := World.block_lt_of_cell? _ _ e1
      have hNz : N < wr.heap.size := World.block_lt_of_cell? _ _ c0
      have Hd := Lib.hid (drop_cons' ps k hlt)
      generalize ps[k] = p at *
      obtain ⟨px, py⟩ := p
      simp only [] at e1 e2
      have hk0 : (0 : Int) ≤ (k : Int) := by omega
      have hk1 : (k : Int) < (ps.length : Int) := by omega
      by_cases h1 : px < 0
      · have d1 : decide (px < 0) = true := by simpa using h1
        go_wp2
        go_quiet (fail)
        go_wp2
        go_ret
        exact ⟨ret_bool (by rw [He.out, Hd.out, on_no (.inl h1)]), hl.trans (hb.trans (by repeat' (with_reducible first | exact Later.refl _ | assumption | refine Later.drew ?_ | refine Later.drewN ?_ _ | refine Later.alloc ?_ _ | refine Later.put ?_ (by omega) _ | refine Later.trans ?_ (by assumption))))⟩
      have d1 : decide (px < 0) = false := by simpa using h1
      by_cases h2 : bl < px
      · have d2 : decide (bl < px) = true := by simpa using h2
        go_wp2
        go_quiet (fail)
        go_wp2
        go_ret
        exact ⟨ret_bool (by rw [He.out, Hd.out, on_no (.inr (.inl h2))]), hl.trans (hb.trans (by repeat' (with_reducible first | exact Later.refl _ | assumption | refine Later.drew ?_ | refine Later.drewN ?_ _ | refine Later.alloc ?_ _ | refine Later.put ?_ (by omega) _ | refine Later.trans ?_ (by assumption))))⟩
      have d2 : decide (bl < px) = false := by simpa using h2
      by_cases h3 : py < 0
      · have d3 : decide (py < 0) = true := by simpa using h3
        go_wp2
        go_quiet (fail)
        go_wp2
        go_ret
        exact ⟨ret_bool (by rw [He.out, Hd.out, on_no (.inr (.inr (.inl h3)))]), hl.trans (hb.trans (by repeat' (with_reducible first | exact Later.refl _ | assumption | refine Later.drew ?_ | refine Later.drewN ?_ _ | refine Later.alloc ?_ _ | refine Later.put ?_ (by omega) _ | refine Later.trans ?_ (by assumption))))⟩
      have d3 : decide (py < 0) = false := by simpa using h3
      by_cases h4 : bw < py
      · have d4 : decide (bw < py) = true := by simpa using h4
        go_wp2
        go_quiet (fail)
        go_wp2
        go_ret
        exact ⟨ret_bool (by rw [He.out, Hd.out, on_no (.inr (.inr (.inr h4)))]), hl.trans (hb.trans (by repeat' (with_reducible first | exact Later.refl _ | assumption | refine Later.drew ?_ | refine Later.drewN ?_ _ | refine Later.alloc ?_ _ | refine Later.put ?_ (by omega) _ | refine Later.trans ?_ (by assumption))))⟩
      have d4 : decide (bw < py) = false := by simpa using h4
      go_wp2
      go_quiet (fail)
      go_wp2
      go_roundw
      case rel => exact ⟨k + 1, by omega, by go_num, hb.trans (by repeat' (with_reducible first | exact Later.refl _ | assumption | refine Later.drew ?_ | refine Later.drewN ?_ _ | refine Later.alloc ?_ _ | refine Later.put ?_ (by omega) _ | refine Later.trans ?_ (by assumption))), by rw [He.out, Hd.out, on_go (by simp only []; omega)]⟩
      case measure => simp [intOf]; omega
    · go_wp2
      go_ret
      exact ⟨ret_bool (by rw [He.out, List.drop_eq_nil_of_le (by omega)]; rfl), hl.trans hb⟩

end Go.Proofs.YtolddfapanabbaaGreat
