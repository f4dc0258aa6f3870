/-
  The walk of the reference's Check.
-/
import Derived.Test.YtolddfapanabbaaRefA
namespace Go.Proofs.Ytolddfapanabbaa
open Go.RowKit
set_option linter.unusedSimpArgs false
set_option linter.unusedVariables false

def rcheckI (ps : List Pt) : Int :=
  if 40 < ps.length then 5 else if ps.length < 3 then 11 else if ps.any (fun p => outsideB p.x p.y) then 3 else if rsimpleB ps then 0 else 11

set_option maxHeartbeats 1000000 in
theorem ref11_Check (A : Option Addr) (c : Nat) (ps : List Pt) (w : World) (hn : ps.length ≤ 1099511627776) (hcap : ps.length ≤ c) (hp : Pts w A ps) :
    Calls Try.prog 56 #[.slice A ps.length c] w (Ret (.int .i64 (rcheckI ps)) w) := by
  by_cases h1 : 40 < ps.length
  · have Hr := Lib.hid (show rcheckI ps = 5 by rw [rcheckI, if_pos h1])
    go_enter Try.func56, Try.ntmps56
    go_wp2
    go_ret
    exact ⟨ret_int (by rw [Hr.out]), Later.refl _⟩
  by_cases h2 : ps.length < 3
  · have Hr := Lib.hid (show rcheckI ps = 11 by rw [rcheckI, if_neg h1, if_pos h2])
    go_enter Try.func56, Try.ntmps56
    go_wp2
    go_ret
    exact ⟨ret_int (by rw [Hr.out]), Later.refl _⟩
  obtain ⟨b, o, rfl, _⟩ := hp (by omega)
  go_enter Try.func56, Try.ntmps56
  go_wp2
  go_loopw [2, 3] (fun r i wr => ∃ k : Nat, k ≤ ps.length ∧ i = .int .i64 k ∧ ps.any (fun p => outsideB p.x p.y) = (ps.drop k).any (fun p => outsideB p.x p.y) ∧ Later w wr) (fun _ i _ => ps.length - (intOf i).toNat)
  case atStart => exact ⟨0, by omega, rfl, rfl, Later.refl _⟩
  case round =>
    obtain ⟨k, hk, rfl, he, hb⟩ := hrel
    have He := Lib.hid he
    clear he
    by_cases hlt : k < ps.length
    · obtain ⟨b', o', hA, e1, e2⟩ := (hp.later hb).at_ hlt
      obtain ⟨rfl, rfl⟩ : b = b' ∧ o = o' := by simpa using hA
      have Hd := Lib.hid (drop_cons ps k hlt)
      generalize ps[k] = p at *
      obtain ⟨px, py⟩ := p
      rcases ho : outsideB px py with _ | _
      · go_wp2_with (go_at_call 89; refine (ref11_Within _ _ _).mono ?_; rintro e w1 ⟨rfl, hb1⟩)
        go_roundw
        case rel => exact ⟨k + 1, by omega, by go_num, by rw [He.out, Hd.out]; simp [ho], (by repeat' (first | exact Later.refl _ | assumption | refine Later.drew ?_ | refine Later.drewN ?_ _ | refine Later.alloc ?_ _ | refine Later.put ?_ (by omega) _ | refine Later.trans ?_ (by assumption)))⟩
        case measure => simp [intOf]; omega
      · have Hr := Lib.hid (show rcheckI ps = 3 by rw [rcheckI, if_neg h1, if_neg h2, He.out, Hd.out]; simp [ho])
        go_wp2_with (go_at_call 89; refine (ref11_Within _ _ _).mono ?_; rintro e w1 ⟨rfl, hb1⟩)
        go_ret
        exact ⟨ret_int (by rw [Hr.out]), (by repeat' (first | exact Later.refl _ | assumption | refine Later.drew ?_ | refine Later.drewN ?_ _ | refine Later.alloc ?_ _ | refine Later.put ?_ (by omega) _ | refine Later.trans ?_ (by assumption)))⟩
    · have h3 : ps.any (fun p => outsideB p.x p.y) = false := by rw [He.out, List.drop_eq_nil_of_le (by omega)]; rfl
      have hsm := small_of h3
      have hp1 := hp.later hb
      rcases h4 : rsimpleB ps with _ | _
      · have Hr := Lib.hid (show rcheckI ps = 11 by rw [rcheckI, if_neg h1, if_neg h2, h3, h4]; rfl)
        clear h3
        go_wp2_with (go_at_call 90; refine (ref11_simple _ _ _ _ _ hn hcap (by omega) hp1 hsm).mono ?_; rintro e w2 ⟨rfl, hb2⟩)
        go_ret
        exact ⟨ret_int (by rw [Hr.out]), (by repeat' (first | exact Later.refl _ | assumption | refine Later.drew ?_ | refine Later.drewN ?_ _ | refine Later.alloc ?_ _ | refine Later.put ?_ (by omega) _ | refine Later.trans ?_ (by assumption)))⟩
      · have Hr := Lib.hid (show rcheckI ps = 0 by rw [rcheckI, if_neg h1, if_neg h2, h3, h4]; rfl)
        clear h3
        go_wp2_with (go_at_call 90; refine (ref11_simple _ _ _ _ _ hn hcap (by omega) hp1 hsm).mono ?_; rintro e w2 ⟨rfl, hb2⟩)
        go_ret
        exact ⟨ret_int (by rw [Hr.out]), (by repeat' (first | exact Later.refl _ | assumption | refine Later.drew ?_ | refine Later.drewN ?_ _ | refine Later.alloc ?_ _ | refine Later.put ?_ (by omega) _ | refine Later.trans ?_ (by assumption)))⟩

end Go.Proofs.Ytolddfapanabbaa
