/-
  The reference of layer 28 (places within a repeat), and the small functions of layer 30.
-/
import Derived.Test.YtinjdlnikhcbfaaRefU
import Derived.Test.YtinjdlnikhcbfaaFits
namespace Go.Proofs.Ytinjdlnikhcbfaa
open Go.RowKit
set_option linter.unusedSimpArgs false
set_option linter.unusedVariables false

/- Layer 28. -/
attribute [local go_sem] ite_min ite_max
theorem mod_form {n p : Int} (hp : 0 < p) : modI n p = if n.tmod p < 0 then n.tmod p + p else n.tmod p := by
  unfold modI
  rw [if_neg (by omega)]
  have h := tmod_bd (n := n) hp
  generalize n.tmod p = t at *
  rw [Int.tmod_eq_emod_of_nonneg (by omega)]
  split
  · exact Int.emod_eq_of_lt (by omega) (by omega)
  · rw [Int.add_emod_right]
    exact Int.emod_eq_of_lt (by omega) (by omega)
/- The small functions of layer 30. -/
def coordR (n : Int) : Bool := decide (n ≥ -1048576) && decide (n ≤ 1048576)
set_option maxHeartbeats 400000 in
theorem ref30_Coord (n : Int) (w : World) : Calls Try.prog 76 #[.int .i64 n] w (Pure (.bool (coordR n)) w) := by
  unfold coordR
  go_enter Try.func76, Try.ntmps76
  go_wp2
  all_goals
    go_ret
    exact ⟨ret_bool (by rw [Bool.eq_iff_iff]; simp; try omega), rfl⟩
theorem near_coord (x y : Int) : (coordR x && coordR y) = !outsideB x y := by
  unfold coordR outsideB
  rw [Bool.eq_iff_iff]
  simp
  omega
set_option maxHeartbeats 1000000 in
theorem ref30_Near (x y : Int) (w : World) : Calls Try.prog 37 #[.agg #[.int .i64 x, .int .i64 y]] w (Ret (.bool (!outsideB x y)) w) := by
  rw [← near_coord]
  have H1 := Lib.hid (fun W => ref30_Coord x W)
  have H2 := Lib.hid (fun W => ref30_Coord y W)
  generalize coordR y = cy at *
  cases hx : coordR x
  · rw [hx] at H1
    go_enter Try.func37, Try.ntmps37
    go_wp2_with (first | (go_at_call 76; (with_reducible refine (H1.out _).mono ?_); rintro e w1 ⟨rfl, rfl⟩))
    go_ret
    exact ⟨rfl, (by repeat' (with_reducible first | exact Later.refl _ | assumption | refine Later.drew ?_ | refine Later.drewN ?_ _ | refine Later.alloc ?_ _ | refine Later.put ?_ (by omega) _ | refine Later.trans ?_ (by assumption)))⟩
  · rw [hx] at H1
    go_enter Try.func37, Try.ntmps37
    go_wp2_with (first | (go_at_call 76; (with_reducible refine (H1.out _).mono ?_); rintro e w1 ⟨rfl, rfl⟩) | (go_at_call 76; (with_reducible refine (H2.out _).mono ?_); rintro e w1 ⟨rfl, rfl⟩))
    go_ret
    exact ⟨rfl, (by repeat' (with_reducible first | exact Later.refl _ | assumption | refine Later.drew ?_ | refine Later.drewN ?_ _ | refine Later.alloc ?_ _ | refine Later.put ?_ (by omega) _ | refine Later.trans ?_ (by assumption)))⟩
def soundB (b : Bd) : Bool := decide (1 ≤ b.l) && (decide (b.l ≤ 1048576) && (decide (1 ≤ b.w) && decide (b.w ≤ 1048576)))
theorem sound_yes {b : Bd} (h : ¬ (b.l < 1 ∨ 1048576 < b.l ∨ b.w < 1 ∨ 1048576 < b.w)) : soundB b = true := by unfold soundB; simp; omega
theorem sound_no {b : Bd} (h : b.l < 1 ∨ 1048576 < b.l ∨ b.w < 1 ∨ 1048576 < b.w) : soundB b = false := by unfold soundB; rw [← Bool.not_eq_true]; simp; omega

end Go.Proofs.Ytinjdlnikhcbfaa
