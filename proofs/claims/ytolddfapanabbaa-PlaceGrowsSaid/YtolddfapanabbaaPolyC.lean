/-
  The walks of polygon.Check and polygon.Box.
-/
import Derived.Test.YtolddfapanabbaaPolyB
namespace Go.Proofs.Ytolddfapanabbaa
open Go.RowKit
set_option linter.unusedSimpArgs false
set_option linter.unusedVariables false

/-- polygon.Check. -/
def checkI (ps : List Pt) : Int :=
  if 40 < ps.length then 5 else if ps.length < 3 then 11 else if ps.any (fun p => outsideB p.x p.y) then 3 else if simpleB ps then 0 else 11

theorem small_of {ps : List Pt} (h : ps.any (fun p => outsideB p.x p.y) = false) : AllSm ps := by
  intro j
  unfold gp
  by_cases hj : j < ps.length
  · have : outsideB (ps[j]).x (ps[j]).y = false := by
      rw [List.any_eq_false] at h
      simpa using h _ (List.getElem_mem hj)
    simp only [outsideB, Bool.or_eq_false_iff, decide_eq_false_iff_not] at this
    simp only [List.getD_eq_getElem?_getD, List.getElem?_eq_getElem hj, Option.getD_some]
    unfold SmP Sm
    omega
  · simp only [List.getD_eq_getElem?_getD, List.getElem?_eq_none (by omega : ps.length ≤ j), Option.getD_none]
    unfold SmP Sm
    simp

set_option maxHeartbeats 1000000 in
theorem polygon_Check (A : Option Addr) (c : Nat) (ps : List Pt) (w : World) (hn : ps.length ≤ 1099511627776) (hcap : ps.length ≤ c) (hp : Pts w A ps) :
    Calls Try.prog 46 #[.slice A ps.length c] w (Ret (.int .i64 (checkI ps)) w) := by
  by_cases h1 : 40 < ps.length
  · have Hr := Lib.hid (show checkI ps = 5 by rw [checkI, if_pos h1])
    go_enter Try.func46, Try.ntmps46
    go_wp2
    go_ret
    exact ⟨ret_int (by rw [Hr.out]), Later.refl _⟩
  by_cases h2 : ps.length < 3
  · have Hr := Lib.hid (show checkI ps = 11 by rw [checkI, if_neg h1, if_pos h2])
    go_enter Try.func46, Try.ntmps46
    go_wp2
    go_ret
    exact ⟨ret_int (by rw [Hr.out]), Later.refl _⟩
  obtain ⟨b, o, rfl, _⟩ := hp (by omega)
  rcases h3 : ps.any (fun p => outsideB p.x p.y) with _ | _
  · have hsm := small_of h3
    rcases h4 : simpleB ps with _ | _
    · have Hr := Lib.hid (show checkI ps = 11 by rw [checkI, if_neg h1, if_neg h2, h3, h4]; rfl)
      go_enter Try.func46, Try.ntmps46
      go_wp2_with (first | (go_at_call 75; refine (slices_ContainsFunc _ _ _ _ hn hp).mono ?_; rintro e w1 ⟨rfl, hb1⟩; have hp1 := hp.later hb1) | (go_at_call 77; refine (polygon_simple _ _ _ _ _ hn hcap (by omega) (by assumption) hsm).mono ?_; rintro e w2 ⟨rfl, hb2⟩))
      go_ret
      exact ⟨ret_int (by rw [Hr.out]), hb1.trans hb2⟩
    · have Hr := Lib.hid (show checkI ps = 0 by rw [checkI, if_neg h1, if_neg h2, h3, h4]; rfl)
      go_enter Try.func46, Try.ntmps46
      go_wp2_with (first | (go_at_call 75; refine (slices_ContainsFunc _ _ _ _ hn hp).mono ?_; rintro e w1 ⟨rfl, hb1⟩; have hp1 := hp.later hb1) | (go_at_call 77; refine (polygon_simple _ _ _ _ _ hn hcap (by omega) (by assumption) hsm).mono ?_; rintro e w2 ⟨rfl, hb2⟩))
      go_ret
      exact ⟨ret_int (by rw [Hr.out]), hb1.trans hb2⟩
  · have Hr := Lib.hid (show checkI ps = 3 by rw [checkI, if_neg h1, if_neg h2, h3]; rfl)
    go_enter Try.func46, Try.ntmps46
    go_wp2_with (first | (go_at_call 75; refine (slices_ContainsFunc _ _ _ _ hn hp).mono ?_; rintro e w1 ⟨rfl, hb1⟩))
    go_ret
    exact ⟨ret_int (by rw [Hr.out]), hb1⟩

end Go.Proofs.Ytolddfapanabbaa
