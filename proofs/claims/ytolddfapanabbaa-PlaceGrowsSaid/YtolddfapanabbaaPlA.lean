/-
  The walks of place's small functions: bounds, stripes, turns of one point.
-/
import Derived.Test.YtolddfapanabbaaBlkN
import Derived.StillTailTactics
namespace Go.Proofs.Ytolddfapanabbaa
open Go.RowKit
set_option linter.unusedSimpArgs false
set_option linter.unusedVariables false

set_option maxHeartbeats 400000 in
theorem place_beyond (x y : Int) (w : World) : Calls Try.prog 52 #[.agg #[.int .i64 x, .int .i64 y]] w (Ret (.bool (outsideB x y)) w) := by
  go_enter Try.func52, Try.ntmps52
  go_wp2
  all_goals
    go_ret
    exact ⟨ret_bool (by simp [outsideB] <;> omega), (Later.refl _).alloc _⟩

def periodI (n : Int) : Int := if n < 1 ∨ 1048576 < n then 0 else n
theorem period_bd (n : Int) : 0 ≤ periodI n ∧ periodI n ≤ 1048576 := by unfold periodI; split <;> omega
set_option maxHeartbeats 400000 in
theorem stripe_period (n : Int) (w : World) : Calls Try.prog 141 #[.int .i64 n] w (Pure (.int .i64 (periodI n)) w) := by
  go_enter Try.func141, Try.ntmps141
  by_cases h : n < 1
  · have d1 : decide (n < 1) = true := by simpa using h
    have H := Lib.hid (show periodI n = 0 by unfold periodI; rw [if_pos (.inl h)])
    go_wp2
    go_ret
    exact ⟨ret_int H.out.symm, rfl⟩
  · have d1 : decide (n < 1) = false := by simpa using h
    by_cases h2 : 1048576 < n
    · have d2 : decide (1048576 < n) = true := by simpa using h2
      have H := Lib.hid (show periodI n = 0 by unfold periodI; rw [if_pos (.inr h2)])
      go_wp2
      go_ret
      exact ⟨ret_int H.out.symm, rfl⟩
    · have d2 : decide (1048576 < n) = false := by simpa using h2
      have H := Lib.hid (show periodI n = n by unfold periodI; rw [if_neg (by omega)])
      go_wp2
      go_ret
      exact ⟨ret_int H.out.symm, rfl⟩

def limI (n : Int) : Int := min (max n (-1048576)) 1048576
theorem lim_bd (n : Int) : -1048576 ≤ limI n ∧ limI n ≤ 1048576 := by unfold limI; omega
attribute [local go_sem] ite_min ite_max
set_option maxHeartbeats 400000 in
theorem stripe_limited (n : Int) (w : World) : Calls Try.prog 136 #[.int .i64 n] w (Pure (.int .i64 (limI n)) w) := by
  go_enter Try.func136, Try.ntmps136
  go_wp2
  go_ret
  exact ⟨ret_int (by unfold limI; omega), rfl⟩

def modI (n p : Int) : Int := if p = 0 then 0 else (n.tmod p + p).tmod p
theorem tmod_bd {n p : Int} (hp : 0 < p) : -p < n.tmod p ∧ n.tmod p < p := by
  constructor
  · rcases Int.le_total 0 n with h | h
    · have := Int.tmod_nonneg p h; omega
    · have h1 : (-n).tmod p = -(n.tmod p) := Int.neg_tmod ..
      have h2 := Int.tmod_lt_of_pos (-n) hp
      omega
  · exact Int.tmod_lt_of_pos n hp
theorem mod_bd {n p : Int} (hp : 0 ≤ p) (h : p ≤ 1048576) : 0 ≤ modI n p ∧ modI n p ≤ 1048576 := by
  unfold modI
  split
  · omega
  · have h1 := tmod_bd (n := n) (p := p) (by omega)
    have h2 := tmod_bd (n := n.tmod p + p) (p := p) (by omega)
    have h3 := Int.tmod_nonneg p (show 0 ≤ n.tmod p + p by omega)
    omega
set_option maxHeartbeats 400000 in
theorem stripe_modulo (n p : Int) (w : World) (hn : -1048576 ≤ n ∧ n ≤ 1048576) (hp : 0 ≤ p ∧ p ≤ 1048576) : Calls Try.prog 135 #[.int .i64 n, .int .i64 p] w (Pure (.int .i64 (modI n p)) w) := by
  go_enter Try.func135, Try.ntmps135
  by_cases h : p = 0
  · subst h
    go_wp2
    go_ret
    exact ⟨ret_int rfl, rfl⟩
  · have d : (p == 0) = false := by simpa using h
    have h1 := tmod_bd (n := n) (p := p) (by omega)
    have H := Lib.hid (show modI n p = (n.tmod p + p).tmod p by unfold modI; rw [if_neg h])
    have hw : IntKind.i64.wrap (n.tmod p + p) = n.tmod p + p := IntWalk.i64_in _ (by omega)
    go_wp2
    go_ret
    refine ⟨ret_int ?_, rfl⟩
    rw [H.out]
    exact (Int.tmod_eq_emod_of_nonneg (by omega)).symm

@[go_sem] theorem build_repeat (a b : Int) (w : World) : (Instr.build 39 #[(0, .int .i64 a), (1, .int .i64 b)]).run Try.prog w = .ok (.agg #[.int .i64 a, .int .i64 b]) w := run_build w 39 _ _ (by kernel_rfl)
@[go_sem] theorem build_turn (a : Bool) (b : Int) (w : World) : (Instr.build 77 #[(0, .bool a), (1, .int .i64 b)]).run Try.prog w = .ok (.agg #[.bool a, .int .i64 b]) w := run_build w 77 _ _ (by kernel_rfl)

theorem still_of {P : Program} {f : FuncId} {args : Array Value} {W : World} {v : Value} (h : Calls P f args W (Pure v W)) : Calls P f args W (fun e w'' => e = .returned v ∧ w'' = W) := h.mono fun _ _ ⟨he, hw⟩ => ⟨he, hw.symm⟩


set_option maxHeartbeats 1000000 in
set_option maxRecDepth 100000 in
theorem stripe_Norm (a b : Int) (w : World) : Calls Try.prog 134 #[.agg #[.int .i64 a, .int .i64 b]] w (Ret (.agg #[.int .i64 (periodI a), .int .i64 (periodI b)]) w) := by
  go_enter Try.func134, Try.ntmps134
  go_wp2
  refine name_world (fun W hW => ?_)
  have hl : Later w W := by rw [hW]; exact (by repeat' (with_reducible first | exact Later.refl _ | assumption | refine Later.drew ?_ | refine Later.drewN ?_ _ | refine Later.alloc ?_ _ | refine Later.put ?_ (by omega) _ | refine Later.trans ?_ (by assumption)))
  have B0 : Blk W w.heap.size 39 #[.int .i64 a, .int .i64 b] := by rw [hW]; exact (by repeat' (with_reducible first | assumption | (refine Blk.newAt ?_; simp; done) | refine Blk.alloc ?_ _ | refine Blk.drew ?_ | refine Blk.drewN ?_ _ | refine Blk.later ?_ (by assumption)))
  have B1 : Blk W (w.heap.size + 1) 39 #[.int .i64 0, .int .i64 0] := by rw [hW]; exact (by repeat' (with_reducible first | assumption | (refine Blk.newAt ?_; simp; done) | refine Blk.alloc ?_ _ | refine Blk.drew ?_ | refine Blk.drewN ?_ _ | refine Blk.later ?_ (by assumption)))
  have c0 : W.cell? ⟨w.heap.size, 0, none⟩ = some (.int .i64 a) := B0.cell 0
  have c1 : W.cell? ⟨w.heap.size, 1, none⟩ = some (.int .i64 b) := B0.cell 1
  have r0 : W.cell? ⟨w.heap.size + 1, 0, none⟩ = some (.int .i64 0) := B1.cell 0
  have r1 : W.cell? ⟨w.heap.size + 1, 1, none⟩ = some (.int .i64 0) := B1.cell 1
  have f0 := B1.frozen 0
  have f1 := B1.frozen 1
  clear hW
  refine wp_region_still_tail 7 (by kernel_rfl) (by kernel_rfl) ?_
  simp only [List.take_succ_cons, List.take_zero, List.drop_succ_cons, List.drop_zero]
  repeat (first | still_step | (refine wpStill_step (fun K hK => ?_); go_simp; (with_reducible refine ⟨_, still_of (stripe_period _ _), hK _ ?_⟩); clear hK K))
  (try refine wpStill_nil ?_)
  change wpList _ _ _ _ _ W.drew
  go_wp2
  refine bodyPost_ret (v := .agg #[.int .i64 (periodI a), .int .i64 (periodI b)]) (by simp [results, Try.results134, go_sem, r0, r1]) rfl ⟨rfl, ?_⟩
  exact (by repeat' (with_reducible first | exact Later.refl _ | assumption | refine Later.drew ?_ | refine Later.drewN ?_ _ | refine Later.alloc ?_ _ | refine Later.put ?_ (by omega) _ | refine Later.trans ?_ (by assumption)))

def phP (rx ry : Int) (p : Pt) : Pt := ⟨modI (limI p.x) (periodI rx), modI (limI p.y) (periodI ry)⟩
set_option maxHeartbeats 2000000 in
set_option maxRecDepth 100000 in
theorem stripe_Phase (a b x y : Int) (w : World) : Calls Try.prog 118 #[.agg #[.int .i64 a, .int .i64 b], .agg #[.int .i64 x, .int .i64 y]] w (Ret (ptV (phP a b ⟨x, y⟩)) w) := by
  have hpa := period_bd a
  have hpb := period_bd b
  have hlx := lim_bd x
  have hly := lim_bd y
  have Hm1 := Lib.hid (fun W => stripe_modulo (limI x) (periodI a) W hlx hpa)
  have Hm2 := Lib.hid (fun W => stripe_modulo (limI y) (periodI b) W hly hpb)
  have HN := Lib.hid (fun W => stripe_Norm a b W)
  unfold ptV phP
  simp only []
  generalize modI (limI x) (periodI a) = m1 at *
  generalize modI (limI y) (periodI b) = m2 at *
  generalize periodI a = pa at *
  generalize periodI b = pb at *
  go_enter Try.func118, Try.ntmps118
  go_wp2_with (first | (go_at_call 134; refine (HN.out _).mono ?_; rintro e w1 ⟨rfl, hb1⟩; have k0 : w1.cell? ⟨w.heap.size, 0, none⟩ = some (.int .i64 a) := hb1.cell (by simp [go_sem]); have k1 : w1.cell? ⟨w.heap.size, 1, none⟩ = some (.int .i64 b) := hb1.cell (by simp [go_sem]); have B0 : Blk w1 w.heap.size 39 #[.int .i64 a, .int .i64 b] := Blk.later (by repeat' (with_reducible first | assumption | (refine Blk.newAt ?_; simp; done) | refine Blk.alloc ?_ _ | refine Blk.drew ?_ | refine Blk.drewN ?_ _ | refine Blk.later ?_ (by assumption))) hb1; have B1 : Blk w1 (w.heap.size + 1) 78 #[.int .i64 x, .int .i64 y] := Blk.later (by repeat' (with_reducible first | assumption | (refine Blk.newAt ?_; simp; done) | refine Blk.alloc ?_ _ | refine Blk.drew ?_ | refine Blk.drewN ?_ _ | refine Blk.later ?_ (by assumption))) hb1; have B2 : Blk w1 (w.heap.size + 1 + 1) 78 #[.int .i64 0, .int .i64 0] := Blk.later (by repeat' (with_reducible first | assumption | (refine Blk.newAt ?_; simp; done) | refine Blk.alloc ?_ _ | refine Blk.drew ?_ | refine Blk.drewN ?_ _ | refine Blk.later ?_ (by assumption))) hb1; have g0 := B0.frozen 0; have g1 := B0.frozen 1))
  refine name_world (fun W hW => ?_)
  have hl : Later w W := by rw [hW]; exact (((((Later.refl w).alloc _).alloc _).alloc _).trans hb1 |>.put (Nat.le_refl _) _).put (Nat.le_refl _) _
  have C0 : Blk W w.heap.size 39 #[.int .i64 pa, .int .i64 pb] := by rw [hW]; exact B0.two
  have C1 : Blk W (w.heap.size + 1) 78 #[.int .i64 x, .int .i64 y] := by rw [hW]; exact (B1.far (by omega) _).far (by omega) _
  have C2 : Blk W (w.heap.size + 1 + 1) 78 #[.int .i64 0, .int .i64 0] := by rw [hW]; exact (B2.far (by omega) _).far (by omega) _
  have c0 : W.cell? ⟨w.heap.size, 0, none⟩ = some (.int .i64 pa) := C0.cell 0
  have c1 : W.cell? ⟨w.heap.size, 1, none⟩ = some (.int .i64 pb) := C0.cell 1
  have d0 : W.cell? ⟨w.heap.size + 1, 0, none⟩ = some (.int .i64 x) := C1.cell 0
  have d1 : W.cell? ⟨w.heap.size + 1, 1, none⟩ = some (.int .i64 y) := C1.cell 1
  have r0 : W.cell? ⟨w.heap.size + 1 + 1, 0, none⟩ = some (.int .i64 0) := C2.cell 0
  have r1 : W.cell? ⟨w.heap.size + 1 + 1, 1, none⟩ = some (.int .i64 0) := C2.cell 1
  have f0 := C2.frozen 0
  have f1 := C2.frozen 1
  clear hW k0 k1 B0 B1 B2 g0 g1 hb1
  refine wp_region_still_tail 13 (by kernel_rfl) (by kernel_rfl) ?_
  simp only [List.take_succ_cons, List.take_zero, List.drop_succ_cons, List.drop_zero]
  repeat (first | still_step | (refine wpStill_step (fun K hK => ?_); go_simp; (with_reducible refine ⟨_, still_of (stripe_limited _ _), hK _ ?_⟩); clear hK K) | (refine wpStill_step (fun K hK => ?_); go_simp; (with_reducible refine ⟨_, still_of (Hm1.out _), hK _ ?_⟩); clear hK K) | (refine wpStill_step (fun K hK => ?_); go_simp; (with_reducible refine ⟨_, still_of (Hm2.out _), hK _ ?_⟩); clear hK K))
  (try refine wpStill_nil ?_)
  change wpList _ _ _ _ _ W.drew
  go_wp2
  refine bodyPost_ret (v := .agg #[.int .i64 m1, .int .i64 m2]) (by simp [results, Try.results118, go_sem, r0, r1]) rfl ⟨rfl, ?_⟩
  exact (hl.put (by omega) _ |>.put (by omega) _).drew

end Go.Proofs.Ytolddfapanabbaa
