/-
  The walks of the functions on single points, second part: two segments that meet, bounds, sides.
-/
import Derived.Test.YtolddfapanabbaaScal
namespace Go.Proofs.Ytolddfapanabbaa
open Go.RowKit
set_option linter.unusedSimpArgs false
set_option linter.unusedVariables false

set_option maxHeartbeats 2000000 in
theorem polygon_meet (xa ya xb yb xc yc xd yd : Int) (w : World) (hxa : Sm xa) (hya : Sm ya) (hxb : Sm xb) (hyb : Sm yb) (hxc : Sm xc) (hyc : Sm yc) (hxd : Sm xd) (hyd : Sm yd) :
    Calls Try.prog 109 #[.agg #[.int .i64 xa, .int .i64 ya], .agg #[.int .i64 xb, .int .i64 yb], .agg #[.int .i64 xc, .int .i64 yc], .agg #[.int .i64 xd, .int .i64 yd]] w (Ret (.bool (meetB xa ya xb yb xc yc xd yd)) w) := by
  go_enter Try.func109, Try.ntmps109
  go_wp2_with (first | (go_at_call 129; refine (polygon_on _ _ _ _ _ _ _ (by assumption) (by assumption) (by assumption) (by assumption) (by assumption) (by assumption)).mono ?_; rintro e w1 ⟨rfl, hb1⟩; first | (have hH := held4_keep (by assumption) hb1; clear hb1) | (have hH := held4_first hb1; clear hb1)) | (go_at_call 130; refine (polygon_parted _ _ _ _ _ _ _ _ _ (by assumption) (by assumption) (by assumption) (by assumption) (by assumption) (by assumption) (by assumption) (by assumption)).mono ?_; rintro e w1 ⟨rfl, hb1⟩; first | (have hH := held4_keep (by assumption) hb1; clear hb1) | (have hH := held4_first hb1; clear hb1)))
  all_goals
    go_ret
    exact ⟨ret_bool (by simp [meetB, *]), held4_later (by assumption)⟩

set_option maxHeartbeats 400000 in
theorem polygon_outside (x y : Int) (w : World) : Calls Try.prog 76 #[.agg #[.int .i64 x, .int .i64 y]] w (Ret (.bool (outsideB x y)) w) := by
  go_enter Try.func76, Try.ntmps76
  go_wp2
  all_goals
    go_ret
    exact ⟨ret_bool (by simp [outsideB] <;> omega), (Later.refl _).alloc _⟩

set_option maxHeartbeats 400000 in
theorem triangle_outside (x y : Int) (w : World) : Calls Try.prog 114 #[.agg #[.int .i64 x, .int .i64 y]] w (Ret (.bool (outsideB x y)) w) := by
  go_enter Try.func114, Try.ntmps114
  go_wp2
  all_goals
    go_ret
    exact ⟨ret_bool (by simp [outsideB] <;> omega), (Later.refl _).alloc _⟩

def withinB (x y l : Int) : Bool := decide (-l ≤ x) && decide (x ≤ l) && decide (-l ≤ y) && decide (y ≤ l)
set_option maxHeartbeats 400000 in
theorem ref11_Within (x y : Int) (w : World) : Calls Try.prog 89 #[.agg #[.int .i64 x, .int .i64 y], .int .i64 1048576] w (Ret (.bool (!outsideB x y)) w) := by
  go_enter Try.func89, Try.ntmps89
  go_wp2
  all_goals
    go_ret
    exact ⟨ret_bool (by rw [Bool.eq_iff_iff]; simp [outsideB] <;> omega), (Later.refl _).alloc _⟩

set_option maxHeartbeats 1000000 in
theorem ref15_side (xa ya xb yb xc yc : Int) (w : World) (hxa : Sm xa) (hya : Sm ya) (hxb : Sm xb) (hyb : Sm yb) (hxc : Sm xc) (hyc : Sm yc) :
    Calls Try.prog 145 #[.agg #[.int .i64 xa, .int .i64 ya], .agg #[.int .i64 xb, .int .i64 yb], .agg #[.int .i64 xc, .int .i64 yc]] w (Ret (.int .i64 (sgn (crossI xa ya xb yb xc yc))) w) := by
  have hb := crossI_bd hxa hya hxb hyb hxc hyc
  have hd : crossI xa ya xb yb xc yc = (xb - xa) * (yc - ya) - (yb - ya) * (xc - xa) := rfl
  unfold sgn
  rw [hd]
  clear hd
  unfold Sm at *
  go_enter Try.func145, Try.ntmps145
  go_wp2
  all_goals
    go_ret
    exact ⟨ret_int (by omega), (((Later.refl _).alloc _).alloc _).alloc _⟩

end Go.Proofs.Ytolddfapanabbaa
