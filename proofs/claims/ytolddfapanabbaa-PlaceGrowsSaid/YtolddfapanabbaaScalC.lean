/-
  The walk of the reference's test whether two segments meet.
-/
import Derived.Test.YtolddfapanabbaaScalB
namespace Go.Proofs.Ytolddfapanabbaa
open Go.RowKit
set_option linter.unusedSimpArgs false
set_option linter.unusedVariables false

set_option maxHeartbeats 2000000 in
theorem ref11_meet_t (xa ya xb yb xc yc xd yd : Int) (w : World) (hxa : Sm xa) (hya : Sm ya) (hxb : Sm xb) (hyb : Sm yb) (hxc : Sm xc) (hyc : Sm yc) (hxd : Sm xd) (hyd : Sm yd) (hd : decide (sgn (crossI xa ya xb yb xc yc) * sgn (crossI xa ya xb yb xd yd) < 0) = true) :
    Calls Try.prog 117 #[.agg #[.int .i64 xa, .int .i64 ya], .agg #[.int .i64 xb, .int .i64 yb], .agg #[.int .i64 xc, .int .i64 yc], .agg #[.int .i64 xd, .int .i64 yd]] w (Ret (.bool (meetB xa ya xb yb xc yc xd yd)) w) := by
  have hw1 : IntKind.i64.wrap (sgn (crossI xa ya xb yb xc yc) * sgn (crossI xa ya xb yb xd yd)) = sgn (crossI xa ya xb yb xc yc) * sgn (crossI xa ya xb yb xd yd) := IntWalk.i64_in _ (by have := sgn_mul_bd (crossI xa ya xb yb xc yc) (crossI xa ya xb yb xd yd); omega)
  have hw2 : IntKind.i64.wrap (sgn (crossI xc yc xd yd xa ya) * sgn (crossI xc yc xd yd xb yb)) = sgn (crossI xc yc xd yd xa ya) * sgn (crossI xc yc xd yd xb yb) := IntWalk.i64_in _ (by have := sgn_mul_bd (crossI xc yc xd yd xa ya) (crossI xc yc xd yd xb yb); omega)
  go_enter Try.func117, Try.ntmps117
  go_wp2_with (first | (go_at_call 116; refine (ref11_Between _ _ _ _ _ _ _ (by assumption) (by assumption) (by assumption) (by assumption) (by assumption) (by assumption)).mono ?_; rintro e w1 ⟨rfl, hb1⟩; first | (have hH := held4_keep (by assumption) hb1; clear hb1) | (have hH := held4_first hb1; clear hb1)))
  iterate 4 (go_ret; exact ⟨ret_bool (by simp [meetB, *]), held4_later (by assumption)⟩)
  go_region_held3 (fun w' : World => w'.cell? ⟨w.heap.size, 0, none⟩ = some (.int .i64 xa) ∧ w'.cell? ⟨w.heap.size, 1, none⟩ = some (.int .i64 ya) ∧ w'.cell? ⟨w.heap.size + 1, 0, none⟩ = some (.int .i64 xb) ∧ w'.cell? ⟨w.heap.size + 1, 1, none⟩ = some (.int .i64 yb) ∧ w'.cell? ⟨w.heap.size + 1 + 1, 0, none⟩ = some (.int .i64 xc) ∧ w'.cell? ⟨w.heap.size + 1 + 1, 1, none⟩ = some (.int .i64 yc) ∧ w'.cell? ⟨w.heap.size + 1 + 1 + 1, 0, none⟩ = some (.int .i64 xd) ∧ w'.cell? ⟨w.heap.size + 1 + 1 + 1, 1, none⟩ = some (.int .i64 yd) ∧ w.heap.size + 1 + 1 + 1 + 1 ≤ w'.heap.size ∧ Later w w') (first | assumption | exact held4_keep (by assumption) (by assumption) | exact held4_keep (by assumption) (Later.refl _).drew)
    (first | (go_at_call 120; refine (ref11_Cross _ _ _ _ _ _ _ (by assumption) (by assumption) (by assumption) (by assumption) (by assumption) (by assumption)).mono ?_; rintro e w1 ⟨rfl, hb1⟩) | (go_at_call 133; refine (ref11_sign _ _).mono ?_; rintro e w1 ⟨rfl, rfl⟩))
  go_wp2
  go_ret
  exact ⟨ret_bool (by simp [meetB, partedB, *]), held4_later (by assumption)⟩

set_option maxHeartbeats 4000000 in
theorem ref11_meet_f (xa ya xb yb xc yc xd yd : Int) (w : World) (hxa : Sm xa) (hya : Sm ya) (hxb : Sm xb) (hyb : Sm yb) (hxc : Sm xc) (hyc : Sm yc) (hxd : Sm xd) (hyd : Sm yd) (hd : decide (sgn (crossI xa ya xb yb xc yc) * sgn (crossI xa ya xb yb xd yd) < 0) = false) :
    Calls Try.prog 117 #[.agg #[.int .i64 xa, .int .i64 ya], .agg #[.int .i64 xb, .int .i64 yb], .agg #[.int .i64 xc, .int .i64 yc], .agg #[.int .i64 xd, .int .i64 yd]] w (Ret (.bool (meetB xa ya xb yb xc yc xd yd)) w) := by
  have hw1 : IntKind.i64.wrap (sgn (crossI xa ya xb yb xc yc) * sgn (crossI xa ya xb yb xd yd)) = sgn (crossI xa ya xb yb xc yc) * sgn (crossI xa ya xb yb xd yd) := IntWalk.i64_in _ (by have := sgn_mul_bd (crossI xa ya xb yb xc yc) (crossI xa ya xb yb xd yd); omega)
  have hw2 : IntKind.i64.wrap (sgn (crossI xc yc xd yd xa ya) * sgn (crossI xc yc xd yd xb yb)) = sgn (crossI xc yc xd yd xa ya) * sgn (crossI xc yc xd yd xb yb) := IntWalk.i64_in _ (by have := sgn_mul_bd (crossI xc yc xd yd xa ya) (crossI xc yc xd yd xb yb); omega)
  go_enter Try.func117, Try.ntmps117
  go_wp2_with (first | (go_at_call 116; refine (ref11_Between _ _ _ _ _ _ _ (by assumption) (by assumption) (by assumption) (by assumption) (by assumption) (by assumption)).mono ?_; rintro e w1 ⟨rfl, hb1⟩; first | (have hH := held4_keep (by assumption) hb1; clear hb1) | (have hH := held4_first hb1; clear hb1)))
  iterate 4 (go_ret; exact ⟨ret_bool (by simp [meetB, *]), held4_later (by assumption)⟩)
  refine wp_region_held_drew (S := (fun w' : World => w'.cell? ⟨w.heap.size, 0, none⟩ = some (.int .i64 xa) ∧ w'.cell? ⟨w.heap.size, 1, none⟩ = some (.int .i64 ya) ∧ w'.cell? ⟨w.heap.size + 1, 0, none⟩ = some (.int .i64 xb) ∧ w'.cell? ⟨w.heap.size + 1, 1, none⟩ = some (.int .i64 yb) ∧ w'.cell? ⟨w.heap.size + 1 + 1, 0, none⟩ = some (.int .i64 xc) ∧ w'.cell? ⟨w.heap.size + 1 + 1, 1, none⟩ = some (.int .i64 yc) ∧ w'.cell? ⟨w.heap.size + 1 + 1 + 1, 0, none⟩ = some (.int .i64 xd) ∧ w'.cell? ⟨w.heap.size + 1 + 1 + 1, 1, none⟩ = some (.int .i64 yd) ∧ w.heap.size + 1 + 1 + 1 + 1 ≤ w'.heap.size ∧ Later w w')) (by kernel_rfl) (held4_keep (by assumption) (Later.refl _).drew) (fun hHeld => ?_)
  refine take_at (i := 0) (d := 31) (v := ?_) rfl rfl (by kernel_rfl) (by kernel_rfl) (by kernel_rfl) (fun _ _ _ h => h) (by rfl) ?_ (by assumption) ?_
  rotate_left
  · (intro w hSw; (try dsimp only at hSw); go_simp; (try with_reducible rfl))
  simp only [Act.put, List.setIfInBounds_toArray, List.set_cons_zero, List.set_cons_succ]
  refine take_at (i := 1) (d := 32) (v := ?_) rfl rfl (by kernel_rfl) (by kernel_rfl) (by kernel_rfl) (fun _ _ _ h => h) (by rfl) ?_ (by assumption) ?_
  rotate_left
  · (intro w hSw; (try dsimp only at hSw); go_simp; (try with_reducible rfl))
  simp only [Act.put, List.setIfInBounds_toArray, List.set_cons_zero, List.set_cons_succ]
  refine take_at (i := 2) (d := 33) (v := ?_) rfl rfl (by kernel_rfl) (by kernel_rfl) (by kernel_rfl) (fun _ _ _ h => h) (by rfl) ?_ (by assumption) ?_
  rotate_left
  · (intro w hSw; (try dsimp only at hSw); go_simp; (try with_reducible rfl))
  simp only [Act.put, List.setIfInBounds_toArray, List.set_cons_zero, List.set_cons_succ]
  refine take_at (i := 5) (d := 36) (v := ?_) rfl rfl (by kernel_rfl) (by kernel_rfl) (by kernel_rfl) (fun _ _ _ h => h) (by rfl) ?_ (by assumption) ?_
  rotate_left
  · (intro w hSw; (try dsimp only at hSw); go_simp; (try with_reducible rfl))
  simp only [Act.put, List.setIfInBounds_toArray, List.set_cons_zero, List.set_cons_succ]
  refine take_at (i := 6) (d := 37) (v := ?_) rfl rfl (by kernel_rfl) (by kernel_rfl) (by kernel_rfl) (fun _ _ _ h => h) (by rfl) ?_ (by assumption) ?_
  rotate_left
  · (intro w hSw; (try dsimp only at hSw); go_simp; (try with_reducible rfl))
  simp only [Act.put, List.setIfInBounds_toArray, List.set_cons_zero, List.set_cons_succ]
  refine take_at (i := 7) (d := 38) (v := ?_) rfl rfl (by kernel_rfl) (by kernel_rfl) (by kernel_rfl) (fun _ _ _ h => h) (by rfl) ?_ (by assumption) ?_
  rotate_left
  · (intro w hSw; (try dsimp only at hSw); go_simp; (try with_reducible rfl))
  simp only [Act.put, List.setIfInBounds_toArray, List.set_cons_zero, List.set_cons_succ]
  refine call_at (i := 3) (d := 34) (f := 120) (args := #[.agg #[.int .i64 xa, .int .i64 ya], .agg #[.int .i64 xb, .int .i64 yb], .agg #[.int .i64 xc, .int .i64 yc]]) (by kernel_rfl) rfl rfl (by rfl) (by go_simp) ?_
  refine (ref11_Cross _ _ _ _ _ _ _ hxa hya hxb hyb hxc hyc).mono ?_
  rintro e w1 ⟨rfl, hb1⟩
  refine ⟨_, rfl, held4_keep (by assumption) hb1, fun hHeld => ?_⟩
  (try subst hb1)
  simp only [Act.put, List.setIfInBounds_toArray, List.set_cons_zero, List.set_cons_succ]
  refine call_at (i := 4) (d := 35) (f := 133) (args := #[.int .i64 (crossI xa ya xb yb xc yc)]) (by kernel_rfl) rfl rfl (by rfl) (by go_simp) ?_
  refine (ref11_sign _ _).mono ?_
  rintro e w1 ⟨rfl, hb1⟩
  refine ⟨_, rfl, hb1 ▸ hHeld, fun hHeld => ?_⟩
  (try subst hb1)
  simp only [Act.put, List.setIfInBounds_toArray, List.set_cons_zero, List.set_cons_succ]
  refine call_at (i := 8) (d := 39) (f := 120) (args := #[.agg #[.int .i64 xa, .int .i64 ya], .agg #[.int .i64 xb, .int .i64 yb], .agg #[.int .i64 xd, .int .i64 yd]]) (by kernel_rfl) rfl rfl (by rfl) (by go_simp) ?_
  refine (ref11_Cross _ _ _ _ _ _ _ hxa hya hxb hyb hxd hyd).mono ?_
  rintro e w1 ⟨rfl, hb1⟩
  refine ⟨_, rfl, held4_keep (by assumption) hb1, fun hHeld => ?_⟩
  (try subst hb1)
  simp only [Act.put, List.setIfInBounds_toArray, List.set_cons_zero, List.set_cons_succ]
  refine call_at (i := 9) (d := 40) (f := 133) (args := #[.int .i64 (crossI xa ya xb yb xd yd)]) (by kernel_rfl) rfl rfl (by rfl) (by go_simp) ?_
  refine (ref11_sign _ _).mono ?_
  rintro e w1 ⟨rfl, hb1⟩
  refine ⟨_, rfl, hb1 ▸ hHeld, fun hHeld => ?_⟩
  (try subst hb1)
  simp only [Act.put, List.setIfInBounds_toArray, List.set_cons_zero, List.set_cons_succ]
  refine take_at (i := 10) (d := 41) (v := ?_) rfl rfl (by kernel_rfl) (by kernel_rfl) (by kernel_rfl) (fun _ _ _ h => h) (by rfl) ?_ (by assumption) ?_
  rotate_left
  · (intro w hSw; (try dsimp only at hSw); go_simp; (try with_reducible rfl))
  simp only [Act.put, List.setIfInBounds_toArray, List.set_cons_zero, List.set_cons_succ]
  refine take_at (i := 11) (d := 42) (v := ?_) rfl rfl (by kernel_rfl) (by kernel_rfl) (by kernel_rfl) (fun _ _ _ h => h) (by rfl) ?_ (by assumption) ?_
  rotate_left
  · (intro w hSw; (try dsimp only at hSw); go_simp; (try with_reducible rfl))
  simp only [Act.put, List.setIfInBounds_toArray, List.set_cons_zero, List.set_cons_succ]
  refine take_at (i := 12) (d := 43) (v := ?_) rfl rfl (by kernel_rfl) (by kernel_rfl) (by kernel_rfl) (fun _ _ _ h => h) (by rfl) ?_ (by assumption) ?_
  rotate_left
  · (intro w hSw; (try dsimp only at hSw); go_simp; (try with_reducible rfl))
  simp only [Act.put, List.setIfInBounds_toArray, List.set_cons_zero, List.set_cons_succ]
  refine skip_at (i := 13) (d := 44) rfl rfl (by kernel_rfl) (by kernel_rfl) (by kernel_rfl) (fun _ _ _ h => h) (by rfl) (by assumption) ?_
  simp only [Act.put, List.setIfInBounds_toArray, List.set_cons_zero, List.set_cons_succ]
  refine skip_at (i := 14) (d := 45) rfl rfl (by kernel_rfl) (by kernel_rfl) (by kernel_rfl) (fun _ _ _ h => h) (by rfl) (by assumption) ?_
  simp only [Act.put, List.setIfInBounds_toArray, List.set_cons_zero, List.set_cons_succ]
  refine skip_at (i := 15) (d := 46) rfl rfl (by kernel_rfl) (by kernel_rfl) (by kernel_rfl) (fun _ _ _ h => h) (by rfl) (by assumption) ?_
  simp only [Act.put, List.setIfInBounds_toArray, List.set_cons_zero, List.set_cons_succ]
  refine skip_at (i := 16) (d := 47) rfl rfl (by kernel_rfl) (by kernel_rfl) (by kernel_rfl) (fun _ _ _ h => h) (by rfl) (by assumption) ?_
  simp only [Act.put, List.setIfInBounds_toArray, List.set_cons_zero, List.set_cons_succ]
  refine skip_at (i := 17) (d := 48) rfl rfl (by kernel_rfl) (by kernel_rfl) (by kernel_rfl) (fun _ _ _ h => h) (by rfl) (by assumption) ?_
  simp only [Act.put, List.setIfInBounds_toArray, List.set_cons_zero, List.set_cons_succ]
  refine skip_at (i := 18) (d := 49) rfl rfl (by kernel_rfl) (by kernel_rfl) (by kernel_rfl) (fun _ _ _ h => h) (by rfl) (by assumption) ?_
  simp only [Act.put, List.setIfInBounds_toArray, List.set_cons_zero, List.set_cons_succ]
  refine skip_at (i := 19) (d := 50) rfl rfl (by kernel_rfl) (by kernel_rfl) (by kernel_rfl) (fun _ _ _ h => h) (by rfl) (by assumption) ?_
  simp only [Act.put, List.setIfInBounds_toArray, List.set_cons_zero, List.set_cons_succ]
  refine skip_at (i := 20) (d := 51) rfl rfl (by kernel_rfl) (by kernel_rfl) (by kernel_rfl) (fun _ _ _ h => h) (by rfl) (by assumption) ?_
  simp only [Act.put, List.setIfInBounds_toArray, List.set_cons_zero, List.set_cons_succ]
  refine skip_at (i := 21) (d := 52) rfl rfl (by kernel_rfl) (by kernel_rfl) (by kernel_rfl) (fun _ _ _ h => h) (by rfl) (by assumption) ?_
  simp only [Act.put, List.setIfInBounds_toArray, List.set_cons_zero, List.set_cons_succ]
  refine skip_at (i := 22) (d := 53) rfl rfl (by kernel_rfl) (by kernel_rfl) (by kernel_rfl) (fun _ _ _ h => h) (by rfl) (by assumption) ?_
  simp only [Act.put, List.setIfInBounds_toArray, List.set_cons_zero, List.set_cons_succ]
  refine skip_at (i := 23) (d := 54) rfl rfl (by kernel_rfl) (by kernel_rfl) (by kernel_rfl) (fun _ _ _ h => h) (by rfl) (by assumption) ?_
  simp only [Act.put, List.setIfInBounds_toArray, List.set_cons_zero, List.set_cons_succ]
  refine skip_at (i := 24) (d := 55) rfl rfl (by kernel_rfl) (by kernel_rfl) (by kernel_rfl) (fun _ _ _ h => h) (by rfl) (by assumption) ?_
  simp only [Act.put, List.setIfInBounds_toArray, List.set_cons_zero, List.set_cons_succ]
  refine take_at (i := 25) (d := 56) (v := ?_) rfl rfl (by kernel_rfl) (by kernel_rfl) (by kernel_rfl) (fun _ _ _ h => h) (by rfl) ?_ (by assumption) ?_
  rotate_left
  · (intro w hSw; (try dsimp only at hSw); go_simp; (try with_reducible rfl))
  simp only [Act.put, List.setIfInBounds_toArray, List.set_cons_zero, List.set_cons_succ]
  refine take_at (i := 26) (d := 8) (v := ?_) rfl rfl (by kernel_rfl) (by kernel_rfl) (by kernel_rfl) (fun _ _ _ h => h) (by rfl) ?_ (by assumption) ?_
  rotate_left
  · (intro w hSw; (try dsimp only at hSw); go_simp; (try with_reducible rfl))
  simp only [Act.put, List.setIfInBounds_toArray, List.set_cons_zero, List.set_cons_succ]
  refine wpAnyH_done (by kernel_rfl) ?_ _
  go_wp2
  go_ret
  exact ⟨ret_bool (by simp [meetB, partedB, *]), held4_later (by assumption)⟩

theorem ref11_meet (xa ya xb yb xc yc xd yd : Int) (w : World) (hxa : Sm xa) (hya : Sm ya) (hxb : Sm xb) (hyb : Sm yb) (hxc : Sm xc) (hyc : Sm yc) (hxd : Sm xd) (hyd : Sm yd) : Calls Try.prog 117 #[.agg #[.int .i64 xa, .int .i64 ya], .agg #[.int .i64 xb, .int .i64 yb], .agg #[.int .i64 xc, .int .i64 yc], .agg #[.int .i64 xd, .int .i64 yd]] w (Ret (.bool (meetB xa ya xb yb xc yc xd yd)) w) := by
  rcases hd : decide (sgn (crossI xa ya xb yb xc yc) * sgn (crossI xa ya xb yb xd yd) < 0) with _ | _
  · exact ref11_meet_f _ _ _ _ _ _ _ _ w hxa hya hxb hyb hxc hyc hxd hyd hd
  · exact ref11_meet_t _ _ _ _ _ _ _ _ w hxa hya hxb hyb hxc hyc hxd hyd hd

end Go.Proofs.Ytolddfapanabbaa
