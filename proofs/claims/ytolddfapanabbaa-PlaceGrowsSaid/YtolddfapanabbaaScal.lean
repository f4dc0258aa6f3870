/-
  The walks of the functions on single points: what each returns.
-/
import Derived.Test.YtolddfapanabbaaBase
namespace Go.Proofs.Ytolddfapanabbaa
open Go.RowKit
set_option linter.unusedSimpArgs false
set_option linter.unusedVariables false

/-- q lies on the segment from a to b. -/
def onB (xa ya xb yb xq yq : Int) : Bool :=
  decide (crossI xa ya xb yb xq yq = 0) && decide (min xa xb ≤ xq) && decide (xq ≤ max xa xb) && decide (min ya yb ≤ yq) && decide (yq ≤ max ya yb)
def partedB (xa ya xb yb xc yc xd yd : Int) : Bool := decide (sgn (crossI xa ya xb yb xc yc) * sgn (crossI xa ya xb yb xd yd) < 0)
def meetB (xa ya xb yb xc yc xd yd : Int) : Bool :=
  onB xa ya xb yb xc yc || onB xa ya xb yb xd yd || onB xc yc xd yd xa ya || onB xc yc xd yd xb yb || (partedB xa ya xb yb xc yc xd yd && partedB xc yc xd yd xa ya xb yb)
def foldedB (xa ya xb yb xc yc : Int) : Bool := decide (crossI xa ya xb yb xc yc = 0) && decide (0 < (xa - xb) * (xc - xb) + (ya - yb) * (yc - yb))
def outsideB (x y : Int) : Bool := decide (x < -1048576) || decide (1048576 < x) || decide (y < -1048576) || decide (1048576 < y)

theorem cmp_sgn (n : Int) : (if n < 0 then (-1 : Int) else if 0 < n then 1 else 0) = sgn n := by unfold sgn; omega

set_option maxHeartbeats 400000 in
theorem polygon_cross (xa ya xb yb xc yc : Int) (w : World) (hxa : Sm xa) (hya : Sm ya) (hxb : Sm xb) (hyb : Sm yb) (hxc : Sm xc) (hyc : Sm yc) :
    Calls Try.prog 128 #[.agg #[.int .i64 xa, .int .i64 ya], .agg #[.int .i64 xb, .int .i64 yb], .agg #[.int .i64 xc, .int .i64 yc]] w (Ret (.int .i64 (crossI xa ya xb yb xc yc)) w) := by
  have hb := crossI_bd hxa hya hxb hyb hxc hyc
  unfold Sm at *
  go_enter Try.func128, Try.ntmps128
  go_wp2
  go_ret
  exact ⟨rfl, (((Later.refl _).alloc _).alloc _).alloc _⟩

set_option maxHeartbeats 400000 in
theorem triangle_cross (xa ya xb yb xc yc : Int) (w : World) (hxa : Sm xa) (hya : Sm ya) (hxb : Sm xb) (hyb : Sm yb) (hxc : Sm xc) (hyc : Sm yc) :
    Calls Try.prog 81 #[.agg #[.int .i64 xa, .int .i64 ya], .agg #[.int .i64 xb, .int .i64 yb], .agg #[.int .i64 xc, .int .i64 yc]] w (Ret (.int .i64 (crossI xa ya xb yb xc yc)) w) := by
  have hb := crossI_bd hxa hya hxb hyb hxc hyc
  unfold Sm at *
  go_enter Try.func81, Try.ntmps81
  go_wp2
  go_ret
  exact ⟨rfl, (((Later.refl _).alloc _).alloc _).alloc _⟩

set_option maxHeartbeats 400000 in
theorem ref11_Cross (xa ya xb yb xc yc : Int) (w : World) (hxa : Sm xa) (hya : Sm ya) (hxb : Sm xb) (hyb : Sm yb) (hxc : Sm xc) (hyc : Sm yc) :
    Calls Try.prog 120 #[.agg #[.int .i64 xa, .int .i64 ya], .agg #[.int .i64 xb, .int .i64 yb], .agg #[.int .i64 xc, .int .i64 yc]] w (Ret (.int .i64 (crossI xa ya xb yb xc yc)) w) := by
  have hb := crossI_bd hxa hya hxb hyb hxc hyc
  unfold Sm at *
  go_enter Try.func120, Try.ntmps120
  go_wp2
  go_ret
  exact ⟨rfl, (((Later.refl _).alloc _).alloc _).alloc _⟩

set_option maxHeartbeats 400000 in
theorem cmp_Compare0 (n : Int) (w : World) : Calls Try.prog 115 #[.int .i64 n, .int .i64 0] w (Pure (.int .i64 (sgn n)) w) := by
  rw [← cmp_sgn]
  by_cases h : n < 0
  · rw [if_pos h]
    go_enter Try.func115, Try.ntmps115
    go_wp2
    go_ret
    exact ⟨rfl, rfl⟩
  · by_cases h' : 0 < n
    · rw [if_neg h, if_pos h']
      go_enter Try.func115, Try.ntmps115
      go_wp2
      go_ret
      exact ⟨rfl, rfl⟩
    · rw [if_neg h, if_neg h']
      go_enter Try.func115, Try.ntmps115
      go_wp2
      go_ret
      exact ⟨rfl, rfl⟩

set_option maxHeartbeats 400000 in
theorem ref11_sign (n : Int) (w : World) : Calls Try.prog 133 #[.int .i64 n] w (Pure (.int .i64 (sgn n)) w) := by
  unfold sgn
  go_enter Try.func133, Try.ntmps133
  go_wp2
  all_goals
    go_ret
    exact ⟨ret_int (by omega), rfl⟩

set_option maxHeartbeats 400000 in
theorem ref13_sign (n : Int) (w : World) : Calls Try.prog 144 #[.int .i64 n] w (Pure (.int .i64 (sgn n)) w) := by
  unfold sgn
  go_enter Try.func144, Try.ntmps144
  go_wp2
  all_goals
    go_ret
    exact ⟨ret_int (by omega), rfl⟩

attribute [local go_sem] ite_min ite_max

set_option maxHeartbeats 1000000 in
theorem polygon_on (xa ya xb yb xq yq : Int) (w : World) (hxa : Sm xa) (hya : Sm ya) (hxb : Sm xb) (hyb : Sm yb) (hxq : Sm xq) (hyq : Sm yq) :
    Calls Try.prog 129 #[.agg #[.int .i64 xa, .int .i64 ya], .agg #[.int .i64 xb, .int .i64 yb], .agg #[.int .i64 xq, .int .i64 yq]] w (Ret (.bool (onB xa ya xb yb xq yq)) w) := by
  go_enter Try.func129, Try.ntmps129
  go_wp2_with (go_at_call 128; refine (polygon_cross _ _ _ _ _ _ _ hxa hya hxb hyb hxq hyq).mono ?_; rintro e w1 ⟨rfl, hb1⟩; have hc1 := hb1.cells.1)
  all_goals
    go_ret
    exact ⟨ret_bool (by simp [onB, *] <;> omega), ((((Later.refl _).alloc _).alloc _).alloc _).trans (by assumption)⟩

set_option maxHeartbeats 1000000 in
theorem ref11_Between (xa ya xb yb xq yq : Int) (w : World) (hxa : Sm xa) (hya : Sm ya) (hxb : Sm xb) (hyb : Sm yb) (hxq : Sm xq) (hyq : Sm yq) :
    Calls Try.prog 116 #[.agg #[.int .i64 xa, .int .i64 ya], .agg #[.int .i64 xb, .int .i64 yb], .agg #[.int .i64 xq, .int .i64 yq]] w (Ret (.bool (onB xa ya xb yb xq yq)) w) := by
  go_enter Try.func116, Try.ntmps116
  go_wp2_with (go_at_call 120; refine (ref11_Cross _ _ _ _ _ _ _ hxa hya hxb hyb hxq hyq).mono ?_; rintro e w1 ⟨rfl, hb1⟩; have hc1 := hb1.cells.1)
  all_goals
    go_ret
    exact ⟨ret_bool (by simp [onB, *] <;> omega), ((((Later.refl _).alloc _).alloc _).alloc _).trans (by assumption)⟩

set_option maxHeartbeats 1000000 in
theorem polygon_folded (xa ya xb yb xc yc : Int) (w : World) (hxa : Sm xa) (hya : Sm ya) (hxb : Sm xb) (hyb : Sm yb) (hxc : Sm xc) (hyc : Sm yc) :
    Calls Try.prog 108 #[.agg #[.int .i64 xa, .int .i64 ya], .agg #[.int .i64 xb, .int .i64 yb], .agg #[.int .i64 xc, .int .i64 yc]] w (Ret (.bool (foldedB xa ya xb yb xc yc)) w) := by
  have hm1 : -70368744177664 ≤ (xa - xb) * (xc - xb) ∧ (xa - xb) * (xc - xb) ≤ 70368744177664 := by
    unfold Sm at *
    have := mul_bd (a := xa - xb) (b := xc - xb) 8388608 (by omega) (by omega)
    omega
  have hm2 : -70368744177664 ≤ (ya - yb) * (yc - yb) ∧ (ya - yb) * (yc - yb) ≤ 70368744177664 := by
    unfold Sm at *
    have := mul_bd (a := ya - yb) (b := yc - yb) 8388608 (by omega) (by omega)
    omega
  have sxa := hxa
  have sya := hya
  have sxb := hxb
  have syb := hyb
  have sxc := hxc
  have syc := hyc
  unfold Sm at sxa sya sxb syb sxc syc
  go_enter Try.func108, Try.ntmps108
  go_wp2_with (go_at_call 128; refine (polygon_cross _ _ _ _ _ _ _ hxa hya hxb hyb hxc hyc).mono ?_; rintro e w1 ⟨rfl, hb1⟩; have hc1 := hb1.cells.1)
  all_goals
    go_ret
    exact ⟨ret_bool (by simp [foldedB, *]), ((((Later.refl _).alloc _).alloc _).alloc _).trans (by assumption)⟩

set_option maxHeartbeats 1000000 in
theorem polygon_parted (xa ya xb yb xc yc xd yd : Int) (w : World) (hxa : Sm xa) (hya : Sm ya) (hxb : Sm xb) (hyb : Sm yb) (hxc : Sm xc) (hyc : Sm yc) (hxd : Sm xd) (hyd : Sm yd) :
    Calls Try.prog 130 #[.agg #[.int .i64 xa, .int .i64 ya], .agg #[.int .i64 xb, .int .i64 yb], .agg #[.int .i64 xc, .int .i64 yc], .agg #[.int .i64 xd, .int .i64 yd]] w (Ret (.bool (partedB xa ya xb yb xc yc xd yd)) w) := by
  have hw : IntKind.i64.wrap (sgn (crossI xa ya xb yb xc yc) * sgn (crossI xa ya xb yb xd yd)) = sgn (crossI xa ya xb yb xc yc) * sgn (crossI xa ya xb yb xd yd) := IntWalk.i64_in _ (by have := sgn_mul_bd (crossI xa ya xb yb xc yc) (crossI xa ya xb yb xd yd); omega)
  go_enter Try.func130, Try.ntmps130
  go_wp2
  go_region_held3 (fun w' : World => w'.cell? ⟨w.heap.size, 0, none⟩ = some (.int .i64 xa) ∧ w'.cell? ⟨w.heap.size, 1, none⟩ = some (.int .i64 ya) ∧ w'.cell? ⟨w.heap.size + 1, 0, none⟩ = some (.int .i64 xb) ∧ w'.cell? ⟨w.heap.size + 1, 1, none⟩ = some (.int .i64 yb) ∧ w'.cell? ⟨w.heap.size + 1 + 1, 0, none⟩ = some (.int .i64 xc) ∧ w'.cell? ⟨w.heap.size + 1 + 1, 1, none⟩ = some (.int .i64 yc) ∧ w'.cell? ⟨w.heap.size + 1 + 1 + 1, 0, none⟩ = some (.int .i64 xd) ∧ w'.cell? ⟨w.heap.size + 1 + 1 + 1, 1, none⟩ = some (.int .i64 yd) ∧ w.heap.size + 1 + 1 + 1 + 1 ≤ w'.heap.size ∧ Later w w') (first | assumption | exact held4_keep (by assumption) (by assumption) | exact held4_init w _ _ _ _ _ _ _ _)
    (first | (go_at_call 128; refine (polygon_cross _ _ _ _ _ _ _ (by assumption) (by assumption) (by assumption) (by assumption) (by assumption) (by assumption)).mono ?_; rintro e w1 ⟨rfl, hb1⟩) | (go_at_call 115; refine (cmp_Compare0 _ _).mono ?_; rintro e w1 ⟨rfl, rfl⟩))
  go_wp2
  go_ret
  exact ⟨ret_bool rfl, by have h := (by assumption : _ ∧ _); exact h.2.2.2.2.2.2.2.2.2⟩

end Go.Proofs.Ytolddfapanabbaa
