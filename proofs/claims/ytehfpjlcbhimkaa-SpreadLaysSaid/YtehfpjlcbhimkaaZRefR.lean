/-
  The reference of layer 27: the error of a roll.
-/
import Derived.Test.YtehfpjlcbhimkaaZRoll
namespace Go.Proofs.Ytehfpjlcbhimkaa
open Go.RowKit
set_option linter.unusedSimpArgs false
set_option linter.unusedVariables false

def digB (c : UInt8) : Bool := decide (48 ≤ (c.toNat : Int)) && decide ((c.toNat : Int) ≤ 57)
set_option maxHeartbeats 1000000 in
theorem ref27_capital (c : UInt8) (w : World) : Calls Try.prog 115 #[.int .u8 (c.toNat : Int)] w (Pure (.bool (capB c)) w) := by
  unfold capB
  go_enter Try.func115, Try.ntmps115
  go_wp2
  all_goals
    go_ret
    exact ⟨ret_bool (by rw [Bool.eq_iff_iff]; simp; try omega), rfl⟩
set_option maxHeartbeats 1000000 in
theorem ref27_digit (c : UInt8) (w : World) : Calls Try.prog 116 #[.int .u8 (c.toNat : Int)] w (Pure (.bool (digB c)) w) := by
  unfold digB
  go_enter Try.func116, Try.ntmps116
  go_wp2
  all_goals
    go_ret
    exact ⟨ret_bool (by rw [Bool.eq_iff_iff]; simp; try omega), rfl⟩
set_option maxHeartbeats 1000000 in
theorem ref27_in (n lo hi : Int) (w : World) : Calls Try.prog 94 #[.int .i64 n, .int .i64 lo, .int .i64 hi] w (Pure (.bool (decide (lo ≤ n) && decide (n ≤ hi))) w) := by
  go_enter Try.func94, Try.ntmps94
  go_wp2
  all_goals
    go_ret
    exact ⟨ret_bool (by rw [Bool.eq_iff_iff]; simp; try omega), rfl⟩

theorem idGo_first {s : ByteArray} (h : 0 < s.size) : idGo s.data.toList 0 = if capB s[0] = true then idGo (s.data.toList.drop 1) 1 else false := by
  have hd := id_drop s 0 h
  rw [List.drop_zero] at hd
  rw [hd, idGo]
  cases hc : capB s[0] with
  | true =>
    rw [if_neg (by simp [chBad, hc]), if_pos rfl]
    rfl
  | false => rw [if_pos (by simp [chBad, hc]), if_neg (by simp)]

set_option maxHeartbeats 4000000 in
theorem ref27_id (s : ByteArray) (w : World) (hs : s.size ≤ maxLen) : Calls Try.prog 93 #[.string s] w (Ret (.bool (idB s)) w) := by
  unfold maxLen at hs
  by_cases hse : s = ⟨#[]⟩
  · subst hse
    go_enter Try.func93, Try.ntmps93
    go_wp2
    go_ret
    exact ⟨ret_bool rfl, (by repeat' (with_reducible first | exact Later.refl _ | assumption | refine Later.drew ?_ | refine Later.drewN ?_ _ | refine Later.alloc ?_ _ | refine Later.put ?_ (by omega) _ | refine Later.trans ?_ (by assumption)))⟩
  have h0 : 0 < s.size := by
    rcases Nat.eq_zero_or_pos s.size with h | h
    · exfalso
      apply hse
      obtain ⟨d⟩ := s
      congr
      exact Array.eq_empty_of_size_eq_zero h
    · exact h
  have hte : s.toList.isEmpty = false := by
    rw [ByteArray.toList_eq]
    cases hl : s.data.toList with
    | nil =>
      exfalso
      have : s.data.toList.length = s.size := by rw [Array.length_toList]; rfl
      rw [hl] at this
      simp at this
      omega
    | cons _ _ => rfl
  by_cases h8 : 8 < s.size
  · have d8 : decide ((8 : Int) < (s.size : Int)) = true := by rw [decide_eq_true_iff]; omega
    have hb : idB s = false := by unfold idB; simp; intro _ _; omega
    rw [hb]
    go_enter Try.func93, Try.ntmps93
    go_wp2
    all_goals go_ret
    all_goals exact ⟨ret_bool rfl, (by repeat' (with_reducible first | exact Later.refl _ | assumption | refine Later.drew ?_ | refine Later.drewN ?_ _ | refine Later.alloc ?_ _ | refine Later.put ?_ (by omega) _ | refine Later.trans ?_ (by assumption)))⟩
  have d8 : decide ((8 : Int) < (s.size : Int)) = false := by rw [decide_eq_false_iff_not]; omega
  have H0 := Lib.hid (fun W => ref27_capital s[0] W)
  cases hc : capB s[0] with
  | false =>
    rw [hc] at H0
    have hb : idB s = false := by unfold idB; rw [idGo_first h0, hc]; rfl
    rw [hb]
    go_enter Try.func93, Try.ntmps93
    go_wp2_with (first | (go_at_call 115; refine (H0.out _).mono ?_; rintro e w1 ⟨rfl, rfl⟩))
    all_goals go_ret
    all_goals exact ⟨ret_bool rfl, (by repeat' (with_reducible first | exact Later.refl _ | assumption | refine Later.drew ?_ | refine Later.drewN ?_ _ | refine Later.alloc ?_ _ | refine Later.put ?_ (by omega) _ | refine Later.trans ?_ (by assumption)))⟩
  | true =>
    rw [hc] at H0
    have hb : idB s = idGo (s.data.toList.drop 1) 1 := by
      unfold idB
      rw [idGo_first h0, hc, if_pos rfl]
      have e1 : decide (1 ≤ s.size) = true := by rw [decide_eq_true_iff]; omega
      have e2 : decide ((s.size : Int) ≤ 8) = true := by simp; omega
      rw [e1, e2]; simp
    rw [hb]
    go_enter Try.func93, Try.ntmps93
    go_wp2_with (first | (go_at_call 115; refine (H0.out _).mono ?_; rintro e w1 ⟨rfl, rfl⟩))
    go_loopw [3] (fun ii wr => ∃ k : Nat, 1 ≤ k ∧ k ≤ s.size ∧ ii = .int .i64 k ∧ idGo (s.data.toList.drop 1) 1 = idGo (s.data.toList.drop k) k ∧ Later w wr) (fun ii _ => s.size - (intOf ii).toNat)
    case atStart => exact ⟨1, by omega, by omega, rfl, rfl, Later.refl _⟩
    case round =>
      obtain ⟨k, hk1, hk, rfl, he, hbl⟩ := hrel
      have He := Lib.hid he
      clear he H0 hb hc
      by_cases hlt : k < s.size
      · have Hd := Lib.hid (id_drop s k hlt)
        have HC := Lib.hid (fun W => ref27_capital s[k] W)
        have HD := Lib.hid (fun W => ref27_digit s[k] W)
        have i1 : (0 : Int) ≤ (k : Int) := by omega
        have i2 : (k : Int) < (s.size : Int) := by omega
        have hw1 : IntKind.i64.wrap ((k : Int) + 1) = (k : Int) + 1 := IntWalk.i64_in _ (by omega)
        clear HC HD
        go_wp2
        all_goals
          first
          | (exfalso; simp_all; omega)
          | (go_ret
             exact ⟨ret_bool (by rw [← List.drop_one, He.out, Hd.out, idGo, if_pos (by first | (simp [chBad, capB, othB]; omega) | (simp_all [chBad, capB, othB] <;> omega))]), hbl⟩)
          | (go_roundw
             case rel => exact ⟨k + 1, by omega, by omega, by go_num, by rw [He.out, Hd.out, idGo, if_neg (by first | (simp [chBad, capB, othB]; omega) | (simp_all [chBad, capB, othB] <;> omega))], hbl⟩
             case measure => simp [intOf]; omega)
      · go_wp2
        go_ret
        exact ⟨ret_bool (by rw [He.out, List.drop_eq_nil_of_le (by simp; omega)]; rfl), hbl⟩

set_option maxHeartbeats 4000000 in
theorem ref27_fits (q : Qd) (r : Rl) (w : World) (hq : QdI q) (hl : 1 ≤ r.ln ∧ r.ln ≤ 1048576) (hw : 1 ≤ r.wd ∧ r.wd ≤ 1048576) :
    Calls Try.prog 95 #[q.agg, r.agg] w (Ret (.bool (!flawBad r.ln r.wd q)) w) := by
  unfold QdI I64 at hq
  obtain ⟨qa, qb, qc, qd⟩ := q
  obtain ⟨rid, rwd, rln, rtl, rta, rtb, fa, fc, fl⟩ := r
  unfold Qd.agg Rl.agg flawBad
  simp only [] at *
  go_enter Try.func95, Try.ntmps95
  go_wp2
  all_goals
    go_ret
    exact ⟨ret_bool (by first | rfl | (rw [Bool.eq_iff_iff]; simp_all; try omega) | (simp_all; omega)), (by repeat' (with_reducible first | exact Later.refl _ | assumption | refine Later.drew ?_ | refine Later.drewN ?_ _ | refine Later.alloc ?_ _ | refine Later.put ?_ (by omega) _ | refine Later.trans ?_ (by assumption)))⟩

end Go.Proofs.Ytehfpjlcbhimkaa
