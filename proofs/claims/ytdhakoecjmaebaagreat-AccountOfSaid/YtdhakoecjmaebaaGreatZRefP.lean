/-
 The reference of layer 27: the error of a roll.
-/
import Derived.Test.YtdhakoecjmaebaaGreatZRoll
namespace Go.Proofs.YtdhakoecjmaebaaGreat
open Go.RowKit
set_option linter.unusedSimpArgs false
set_option linter.unusedVariables false
def digB (c : UInt8) : Bool := decide (48 ≤ (c.toNat : Int)) && decide ((c.toNat : Int) ≤ 57)
set_option maxHeartbeats 1000000 in
theorem ref27_capital (c : UInt8) (w : World) : Calls Tryz.prog 219 #[.int .u8 (c.toNat : Int)] w (Pure (.bool (capB c)) w) := by
  unfold capB
  go_enter Tryz.func219, Tryz.ntmps219
  go_wp2
  all_goals
    go_ret
    exact ⟨ret_bool (by rw [Bool.eq_iff_iff]; simp; try omega), rfl⟩
set_option maxHeartbeats 1000000 in
theorem ref27_digit (c : UInt8) (w : World) : Calls Tryz.prog 220 #[.int .u8 (c.toNat : Int)] w (Pure (.bool (digB c)) w) := by
  unfold digB
  go_enter Tryz.func220, Tryz.ntmps220
  go_wp2
  all_goals
    go_ret
    exact ⟨ret_bool (by rw [Bool.eq_iff_iff]; simp; try omega), rfl⟩
set_option maxHeartbeats 1000000 in
theorem ref27_in (n lo hi : Int) (w : World) : Calls Tryz.prog 182 #[.int .i64 n, .int .i64 lo, .int .i64 hi] w (Pure (.bool (decide (lo ≤ n) && decide (n ≤ hi))) w) := by
  go_enter Tryz.func182, Tryz.ntmps182
  go_wp2
  all_goals
    go_ret
    exact ⟨ret_bool (by rw [Bool.eq_iff_iff]; simp; try omega), rfl⟩
theorem idGo_first {s : ByteArray} (h : 0 < s.size) : idGo s.data.toList 0 = if capB s[0] = true then idGo (s.data.toList.drop 1) 1 else false := by
  have hd := id_drop s 0 h
  rw [List.drop_zero] at hd
  rw [hd, idGo]
  cases hc : capB s[0] with
  | true =>
    rw [if_neg (by simp [chBad, hc]), if_pos rfl]
    rfl
  | false => rw [if_pos (by simp [chBad, hc]), if_neg (by simp)]
set_option maxHeartbeats 4000000 in
theorem ref27_id (s : ByteArray) (w : World) (hs : s.size ≤ maxLen) : Calls Tryz.prog 181 #[.string s] w (Ret (.bool (idB s)) w) := by
  unfold maxLen at hs
  by_cases hse : s = ⟨#[]⟩
  · subst hse
    go_enter Tryz.func181, Tryz.ntmps181
    go_wp2
    go_ret
    exact ⟨ret_bool rfl, (by repeat' (with_reducible first | exact .refl _ | assumption | refine .drew ?_ | refine .drewN ?_ _ | refine .alloc ?_ _ | refine .put ?_ (by omega) _ | refine .trans ?_ (by assumption)))⟩
  have h0 : 0 < s.size := by
    rcases Nat.eq_zero_or_pos s.size with h | h
    · exfalso
      apply hse
      obtain ⟨d⟩ := s
      congr
      exact Array.eq_empty_of_size_eq_zero h
    · exact h
  have hte : s.toList.isEmpty = false := by
    rw [ByteArray.toList_eq]
    cases hl : s.data.toList with
    | nil =>
      exfalso
      have : s.data.toList.length = s.size := by rw [Array.length_toList]; rfl
      rw [hl] at this
      simp at this
      omega
    | cons _ _ => rfl
  by_cases h8 : 8 < s.size
  · have d8 : decide ((8 : Int) < (s.size : Int)) = true := by rw [decide_eq_true_iff]; omega
    have hb : idB s = false := by unfold idB; simp; intro _ _; omega
    rw [hb]
    go_enter Tryz.func181, Tryz.ntmps181
    go_wp2
    all_goals go_ret
    all_goals exact ⟨ret_bool rfl, (by repeat' (with_reducible first | exact .refl _ | assumption | refine .drew ?_ | refine .drewN ?_ _ | refine .alloc ?_ _ | refine .put ?_ (by omega) _ | refine .trans ?_ (by assumption)))⟩
  have d8 : decide ((8 : Int) < (s.size : Int)) = false := by rw [decide_eq_false_iff_not]; omega
  have H0 := Lib.hid (fun W => ref27_capital s[0] W)
  cases hc : capB s[0] with
  | false =>
    rw [hc] at H0
    have hb : idB s = false := by unfold idB; rw [idGo_first h0, hc]; rfl
    rw [hb]
    go_enter Tryz.func181, Tryz.ntmps181
    go_wp2_with (first | (go_at_call 219; refine (H0.out _).mono ?_; rintro e w1 ⟨rfl, rfl⟩))
    all_goals go_ret
    all_goals exact ⟨ret_bool rfl, (by repeat' (with_reducible first | exact .refl _ | assumption | refine .drew ?_ | refine .drewN ?_ _ | refine .alloc ?_ _ | refine .put ?_ (by omega) _ | refine .trans ?_ (by assumption)))⟩
  | true =>
    rw [hc] at H0
    have hb : idB s = idGo (s.data.toList.drop 1) 1 := by
      unfold idB
      rw [idGo_first h0, hc, if_pos rfl]
      have e1 : decide (1 ≤ s.size) = true := by rw [decide_eq_true_iff]; omega
      have e2 : decide ((s.size : Int) ≤ 8) = true := by simp; omega
      rw [e1, e2]; simp
    rw [hb]
    go_enter Tryz.func181, Tryz.ntmps181
    go_wp2_with (first | (go_at_call 219; refine (H0.out _).mono ?_; rintro e w1 ⟨rfl, rfl⟩))
    go_loopw [3] (fun ii wr => ∃ k : Nat, 1 ≤ k ∧ k ≤ s.size ∧ ii = .int .i64 k ∧ idGo (s.data.toList.drop 1) 1 = idGo (s.data.toList.drop k) k ∧ Later w wr) (fun ii _ => s.size - (intOf ii).toNat)
    case atStart => exact ⟨1, by omega, by omega, rfl, rfl, Later.refl _⟩
    case round =>
      obtain ⟨k, hk1, hk, rfl, he, hbl⟩ := hrel
      have He := Lib.hid he
      clear he H0 hb hc
      by_cases hlt : k < s.size
      · have Hd := Lib.hid (id_drop s k hlt)
        have HC := Lib.hid (fun W => ref27_capital s[k] W)
        have HD := Lib.hid (fun W => ref27_digit s[k] W)
        have i1 : (0 : Int) ≤ (k : Int) := by omega
        have i2 : (k : Int) < (s.size : Int) := by omega
        have hw1 : IntKind.i64.wrap ((k : Int) + 1) = (k : Int) + 1 := IntWalk.i64_in _ (by omega)
        clear HC HD
        go_wp2
        all_goals
          first
          | (exfalso; simp_all; omega)
          | (go_ret
             exact ⟨ret_bool (by rw [← List.drop_one, He.out, Hd.out, idGo, if_pos (by first | (simp [chBad, capB, othB]; omega) | (simp_all [chBad, capB, othB] <;> omega))]), hbl⟩)
          | (go_roundw
             case rel => exact ⟨k + 1, by omega, by omega, by go_num, by rw [He.out, Hd.out, idGo, if_neg (by first | (simp [chBad, capB, othB]; omega) | (simp_all [chBad, capB, othB] <;> omega))], hbl⟩
             case measure => simp [intOf]; omega)
      · go_wp2
        go_ret
        exact ⟨ret_bool (by rw [He.out, List.drop_eq_nil_of_le (by simp; omega)]; rfl), hbl⟩
set_option maxHeartbeats 4000000 in
theorem ref27_fits (q : Qd) (r : Rl) (w : World) (hq : QdI q) (hl : 1 ≤ r.ln ∧ r.ln ≤ 1048576) (hw : 1 ≤ r.wd ∧ r.wd ≤ 1048576) :
    Calls Tryz.prog 183 #[q.agg, r.agg] w (Ret (.bool (!flawBad r.ln r.wd q)) w) := by
  unfold QdI I64 at hq
  obtain ⟨qa, qb, qc, qd⟩ := q
  obtain ⟨rid, rwd, rln, rtl, rta, rtb, fa, fc, fl⟩ := r
  unfold Qd.agg Rl.agg flawBad
  simp only [] at *
  go_enter Tryz.func183, Tryz.ntmps183
  go_wp2
  all_goals
    go_ret
    exact ⟨ret_bool (by first | rfl | (rw [Bool.eq_iff_iff]; simp_all; try omega) | (simp_all; omega)), (by repeat' (with_reducible first | exact .refl _ | assumption | refine .drew ?_ | refine .drewN ?_ _ | refine .alloc ?_ _ | refine .put ?_ (by omega) _ | refine .trans ?_ (by assumption)))⟩
end Go.Proofs.YtdhakoecjmaebaaGreat
namespace Go.Proofs.YtdhakoecjmaebaaGreat
open Go.RowKit
set_option linter.unusedSimpArgs false
set_option linter.unusedVariables false
theorem tones_iff (a b c : Int) : tonesBad [a, b, c] = true ↔ (a < -1000 ∨ 1000 < a) ∨ (b < -1000 ∨ 1000 < b) ∨ (c < -1000 ∨ 1000 < c) := by
  simp only [tonesBad, toneBad, Bool.or_eq_true, decide_eq_true_eq]
  split
  · rename_i h; simp [h]
  · rename_i h
    split
    · rename_i h2; simp [h2]
    · rename_i h2
      split
      · rename_i h3; simp [h3]
      · rename_i h3; simp only [Bool.false_eq_true, false_iff]; omega
theorem base_bad {r : Rl} (hi : idB r.id = true) (hb : baseI r ≠ 0) : baseI r = 3 ∧ (r.ln < 1 ∨ 1048576 < r.ln ∨ r.wd < 1 ∨ 1048576 < r.wd ∨ r.tl < -1000 ∨ 1000 < r.tl ∨ r.ta < -1000 ∨ 1000 < r.ta ∨ r.tb < -1000 ∨ 1000 < r.tb) := by
  unfold baseI at *
  rw [if_neg (by simp [hi])] at hb ⊢
  by_cases h : r.ln < 1 ∨ 1048576 < r.ln ∨ r.wd < 1 ∨ 1048576 < r.wd
  · rw [if_pos h]; exact ⟨rfl, by omega⟩
  · rw [if_neg h] at hb ⊢
    by_cases h2 : tonesBad [r.tl, r.ta, r.tb] = true
    · rw [if_pos h2]
      rw [tones_iff] at h2
      exact ⟨rfl, by omega⟩
    · rw [if_neg h2] at hb; exact absurd rfl hb
set_option maxHeartbeats 4000000 in
theorem ref27_Check_pre (r : Rl) (w : World) (hr : RlOk w r) (hb : baseI r ≠ 0) :
    Calls Tryz.prog 133 #[r.agg] w (Ret (.int .i64 (rollI r)) w) := by
  have HI := Lib.hid (fun W => ref27_id r.id W hr.1)
  have hro : rollI r = baseI r := by unfold rollI; rw [if_pos hb]
  rw [hro]
  clear hro
  cases hi : idB r.id with
  | false =>
    have hbe : baseI r = 1 := by unfold baseI; rw [if_pos hi]
    rw [hbe]
    rw [hi] at HI
    obtain ⟨rid, rwd, rln, rtl, rta, rtb, fa, fc, fl⟩ := r
    unfold Rl.agg
    simp only [] at *
    clear hb hi hbe
    go_enter Tryz.func133, Tryz.ntmps133
    go_wp2_with (first | (go_at_call 181; refine (HI.out _).mono ?_; rintro e w1 ⟨rfl, hb1⟩))
    go_ret
    exact ⟨rfl, (by repeat' (with_reducible first | exact .refl _ | assumption | refine .drew ?_ | refine .drewN ?_ _ | refine .alloc ?_ _ | refine .put ?_ (by omega) _ | refine .trans ?_ (by assumption)))⟩
  | true =>
    obtain ⟨h3, hbad⟩ := base_bad hi hb
    rw [h3]
    rw [hi] at HI
    obtain ⟨rid, rwd, rln, rtl, rta, rtb, fa, fc, fl⟩ := r
    unfold Rl.agg
    simp only [] at *
    clear hb hi h3
    have Hbad := Lib.hid hbad
    clear hbad
    go_enter Tryz.func133, Tryz.ntmps133
    go_wp2_with (first | (go_at_call 181; refine (HI.out _).mono ?_; rintro e w1 ⟨rfl, hb1⟩; have B0 : Blk w1 w.heap.size 100 #[.string rid, .int .i64 rwd, .int .i64 rln, .int .i64 rtl, .int .i64 rta, .int .i64 rtb, .slice fa fl.length fc] := Blk.later (by repeat' (with_reducible first | assumption | (refine Blk.newAt ?_; simp; done) | refine Blk.alloc ?_ _ | refine Blk.drew ?_ | refine Blk.drewN ?_ _ | refine Blk.later ?_ (by assumption))) hb1; have d1 : w1.cell? ⟨w.heap.size, 1, none⟩ = some (.int .i64 rwd) := B0.cell 1; have d2 : w1.cell? ⟨w.heap.size, 2, none⟩ = some (.int .i64 rln) := B0.cell 2; have d3 : w1.cell? ⟨w.heap.size, 3, none⟩ = some (.int .i64 rtl) := B0.cell 3; have d4 : w1.cell? ⟨w.heap.size, 4, none⟩ = some (.int .i64 rta) := B0.cell 4; have d5 : w1.cell? ⟨w.heap.size, 5, none⟩ = some (.int .i64 rtb) := B0.cell 5; have d6 : w1.cell? ⟨w.heap.size, 6, none⟩ = some (.slice fa fl.length fc) := B0.cell 6) | (go_at_call 182; refine (ref27_in _ _ _ _).mono ?_; rintro e w2 ⟨rfl, rfl⟩))
    all_goals
      first
      | (go_ret; exact ⟨rfl, (by repeat' (with_reducible first | exact .refl _ | assumption | refine .drew ?_ | refine .drewN ?_ _ | refine .alloc ?_ _ | refine .put ?_ (by omega) _ | refine .trans ?_ (by assumption)))⟩)
      | (exfalso; have hbad := Hbad.out; omega)
      | (exfalso; have hbad := Hbad.out; simp at *; omega)
      | (exfalso; have hbad := Hbad.out; simp_all; omega)
end Go.Proofs.YtdhakoecjmaebaaGreat
namespace Go.Proofs.YtdhakoecjmaebaaGreat
open Go.RowKit
set_option linter.unusedSimpArgs false
set_option linter.unusedVariables false
theorem base_good {r : Rl} (hb : baseI r = 0) : idB r.id = true ∧ 1 ≤ r.ln ∧ r.ln ≤ 1048576 ∧ 1 ≤ r.wd ∧ r.wd ≤ 1048576 ∧ -1000 ≤ r.tl ∧ r.tl ≤ 1000 ∧ -1000 ≤ r.ta ∧ r.ta ≤ 1000 ∧ -1000 ≤ r.tb ∧ r.tb ≤ 1000 := by
  unfold baseI at hb
  split at hb
  · cases hb
  · rename_i hi
    split at hb
    · cases hb
    · split at hb
      · cases hb
      · rename_i h1 h2
        rw [tones_iff] at h2
        exact ⟨by simpa using hi, by omega, by omega, by omega, by omega, by omega, by omega, by omega, by omega, by omega, by omega⟩
def flI (ln wd : Int) (fl : List Qd) : Int := if flawsBad ln wd fl = true then 3 else 0
set_option maxHeartbeats 4000000 in
theorem ref27_Check_ok (r : Rl) (w : World) (hr : RlOk w r) (hb : baseI r = 0) :
    Calls Tryz.prog 133 #[r.agg] w (Ret (.int .i64 (rollI r)) w) := by
  have HI := Lib.hid (fun W => ref27_id r.id W hr.1)
  obtain ⟨hi, g1, g2, g3, g4, g5, g6, g7, g8, g9, g10⟩ := base_good hb
  have hro : rollI r = if 20 < r.fl.length then 5 else if flawsBad r.ln r.wd r.fl = true then 3 else 0 := by unfold rollI; rw [if_neg (by simpa using hb)]
  rw [hi] at HI
  have hfl := hr.2.2.2.1
  have hfq := hr.2.2.2.2.1
  have HF := Lib.hid (fun (q : Qd) (hq : QdI q) W => ref27_fits q r W hq ⟨g1, g2⟩ ⟨g3, g4⟩)
  rw [hro]
  clear hb hi hro hr
  obtain ⟨rid, rwd, rln, rtl, rta, rtb, fa, fc, fl⟩ := r
  unfold Rl.agg at HF ⊢
  simp only [] at *
  have e1 : (decide (1 ≤ rln) && decide (rln ≤ 1048576)) = true := by simp; omega
  have e2 : (decide (1 ≤ rwd) && decide (rwd ≤ 1048576)) = true := by simp; omega
  have e3 : (decide (-1000 ≤ rtl) && decide (rtl ≤ 1000)) = true := by simp; omega
  have e4 : (decide (-1000 ≤ rta) && decide (rta ≤ 1000)) = true := by simp; omega
  have e5 : (decide (-1000 ≤ rtb) && decide (rtb ≤ 1000)) = true := by simp; omega
  have H1 := Lib.hid (fun W => ref27_in rln 1 1048576 W)
  have H2 := Lib.hid (fun W => ref27_in rwd 1 1048576 W)
  have H3 := Lib.hid (fun W => ref27_in rtl (-1000) 1000 W)
  have H4 := Lib.hid (fun W => ref27_in rta (-1000) 1000 W)
  have H5 := Lib.hid (fun W => ref27_in rtb (-1000) 1000 W)
  rw [e1] at H1
  rw [e2] at H2
  rw [e3] at H3
  rw [e4] at H4
  rw [e5] at H5
  clear e1 e2 e3 e4 e5
  by_cases hl : 20 < fl.length
  · rw [if_pos hl]
    have dl : decide ((20 : Int) < (fl.length : Int)) = true := by rw [decide_eq_true_iff]; omega
    go_enter Tryz.func133, Tryz.ntmps133
    go_wp2_with (first | (go_at_call 181; refine (HI.out _).mono ?_; rintro e w1 ⟨rfl, hb1⟩; have B0 : Blk w1 w.heap.size 100 #[.string rid, .int .i64 rwd, .int .i64 rln, .int .i64 rtl, .int .i64 rta, .int .i64 rtb, .slice fa fl.length fc] := Blk.later (by repeat' (with_reducible first | assumption | (refine Blk.newAt ?_; simp; done) | refine Blk.alloc ?_ _ | refine Blk.drew ?_ | refine Blk.drewN ?_ _ | refine Blk.later ?_ (by assumption))) hb1; have d1 : w1.cell? ⟨w.heap.size, 1, none⟩ = some (.int .i64 rwd) := B0.cell 1; have d2 : w1.cell? ⟨w.heap.size, 2, none⟩ = some (.int .i64 rln) := B0.cell 2; have d3 : w1.cell? ⟨w.heap.size, 3, none⟩ = some (.int .i64 rtl) := B0.cell 3; have d4 : w1.cell? ⟨w.heap.size, 4, none⟩ = some (.int .i64 rta) := B0.cell 4; have d5 : w1.cell? ⟨w.heap.size, 5, none⟩ = some (.int .i64 rtb) := B0.cell 5; have d6 : w1.cell? ⟨w.heap.size, 6, none⟩ = some (.slice fa fl.length fc) := B0.cell 6) | (go_at_call 182; (first | (with_reducible refine (H1.out _).mono ?_) | (with_reducible refine (H2.out _).mono ?_) | (with_reducible refine (H3.out _).mono ?_) | (with_reducible refine (H4.out _).mono ?_) | (with_reducible refine (H5.out _).mono ?_)); rintro e w2 ⟨rfl, rfl⟩))
    go_ret
    exact ⟨rfl, (by repeat' (with_reducible first | exact .refl _ | assumption | refine .drew ?_ | refine .drewN ?_ _ | refine .alloc ?_ _ | refine .put ?_ (by omega) _ | refine .trans ?_ (by assumption)))⟩
  · rw [if_neg hl]
    rw [show (if flawsBad rln rwd fl = true then (3 : Int) else 0) = flI rln rwd fl from rfl]
    have dl : decide ((20 : Int) < (fl.length : Int)) = false := by rw [decide_eq_false_iff_not]; omega
    go_enter Tryz.func133, Tryz.ntmps133
    go_wp2_with (first | (go_at_call 181; refine (HI.out _).mono ?_; rintro e w1 ⟨rfl, hb1⟩; have B0 : Blk w1 w.heap.size 100 #[.string rid, .int .i64 rwd, .int .i64 rln, .int .i64 rtl, .int .i64 rta, .int .i64 rtb, .slice fa fl.length fc] := Blk.later (by repeat' (with_reducible first | assumption | (refine Blk.newAt ?_; simp; done) | refine Blk.alloc ?_ _ | refine Blk.drew ?_ | refine Blk.drewN ?_ _ | refine Blk.later ?_ (by assumption))) hb1; have d1 : w1.cell? ⟨w.heap.size, 1, none⟩ = some (.int .i64 rwd) := B0.cell 1; have d2 : w1.cell? ⟨w.heap.size, 2, none⟩ = some (.int .i64 rln) := B0.cell 2; have d3 : w1.cell? ⟨w.heap.size, 3, none⟩ = some (.int .i64 rtl) := B0.cell 3; have d4 : w1.cell? ⟨w.heap.size, 4, none⟩ = some (.int .i64 rta) := B0.cell 4; have d5 : w1.cell? ⟨w.heap.size, 5, none⟩ = some (.int .i64 rtb) := B0.cell 5; have d6 : w1.cell? ⟨w.heap.size, 6, none⟩ = some (.slice fa fl.length fc) := B0.cell 6) | (go_at_call 182; (first | (with_reducible refine (H1.out _).mono ?_) | (with_reducible refine (H2.out _).mono ?_) | (with_reducible refine (H3.out _).mono ?_) | (with_reducible refine (H4.out _).mono ?_) | (with_reducible refine (H5.out _).mono ?_)); rintro e w2 ⟨rfl, rfl⟩))
    refine name_world (fun W9 hW9 => ?_)
    have hl9 : Later w1 W9 := by rw [hW9]; exact (by repeat' (with_reducible first | exact .refl _ | assumption | refine .drew ?_ | refine .drewN ?_ _ | refine .alloc ?_ _ | refine .put ?_ (by omega) _ | refine .trans ?_ (by assumption)))
    have hlw : Later w W9 := ((Later.refl _).alloc _).trans (hb1.trans hl9)
    have B9 := B0.later hl9
    have hq9 := hfl.later hlw
    clear hW9 d1 d2 d3 d4 d5 d6 H1 H2 H3 H4 H5 HI B0 hb1 hl9 dl
    generalize w.heap.size = ga at *
    go_loopw [2, 3] (fun _ iv wr => ∃ k : Nat, k ≤ fl.length ∧ iv = .int .i64 k ∧ flawsBad rln rwd fl = flawsBad rln rwd (fl.drop k) ∧ Later W9 wr) (fun _ iv _ => fl.length - (intOf iv).toNat)
    case atStart => exact ⟨0, by omega, rfl, rfl, Later.refl _⟩
    case round =>
      obtain ⟨k, hk, rfl, he, hb⟩ := hrel
      have He := Lib.hid he
      clear he
      have BR := B9.later hb
      have c0 : wr.cell? ⟨ga, 0, none⟩ = some (.string rid) := BR.cell 0
      have c1 : wr.cell? ⟨ga, 1, none⟩ = some (.int .i64 rwd) := BR.cell 1
      have c2 : wr.cell? ⟨ga, 2, none⟩ = some (.int .i64 rln) := BR.cell 2
      have c3 : wr.cell? ⟨ga, 3, none⟩ = some (.int .i64 rtl) := BR.cell 3
      have c4 : wr.cell? ⟨ga, 4, none⟩ = some (.int .i64 rta) := BR.cell 4
      have c5 : wr.cell? ⟨ga, 5, none⟩ = some (.int .i64 rtb) := BR.cell 5
      have c6 : wr.cell? ⟨ga, 6, none⟩ = some (.slice fa fl.length fc) := BR.cell 6
      by_cases hlt : k < fl.length
      · obtain ⟨bb, ob, rfl, hel⟩ := (hq9.later hb) (by omega)
        obtain ⟨e1, e2, e3, e4⟩ := hel.get hlt
        have hbz : bb < wr.heap.size := World.block_lt_of_cell? _ _ e1
        have hgz : ga < wr.heap.size := World.block_lt_of_cell? _ _ c0
        have Hd := Lib.hid (drop_cons' fl k hlt)
        have hi := hfq _ (List.getElem_mem hlt)
        generalize fl[k] = q at *
        have HQ := Lib.hid (fun W => HF.out q hi W)
        clear HF
        have hk0 : (0 : Int) ≤ (k : Int) := by omega
        have hk1 : (k : Int) < (fl.length : Int) := by omega
        cases hc1 : flawBad rln rwd q
        all_goals
          rw [hc1] at HQ
          have Hc1 := Lib.hid hc1
          clear hc1
          obtain ⟨qa, qb, qc, qd⟩ := q
          unfold Qd.agg at HQ
          go_wp2
          go_region_held3 (fun w' : World => (∀ a : Addr, (wr.cell? a).isSome = true → w'.cell? a = wr.cell? a) ∧ Later wr w') (first | assumption | exact keep_call (by assumption) (by assumption) | exact keep_call (by assumption) ((Later.refl _).alloc _) | exact keep_init _)
            (first | (go_at_call 183; refine (HQ.out _).mono ?_; rintro e w4 ⟨rfl, hb4⟩))
          rename_i hHw
          have hlw4 := hHw.2
          clear hHw
          go_wp2
        · go_roundw
          case rel => exact ⟨k + 1, by omega, by go_num, by rw [He.out, Hd.out]; exact flaws_miss Hc1.out, hb.trans hlw4⟩
          case measure => simp [intOf]; omega
        · go_ret
          exact ⟨ret_int (by rw [flI, He.out, Hd.out, flaws_hit Hc1.out]; rfl), hlw.trans (hb.trans hlw4)⟩
      · go_wp2
        go_ret
        exact ⟨ret_int (by rw [flI, He.out, List.drop_eq_nil_of_le (by omega)]; rfl), hlw.trans hb⟩
theorem ref27_Check (r : Rl) (w : World) (hr : RlOk w r) : Calls Tryz.prog 133 #[r.agg] w (Ret (.int .i64 (rollI r)) w) := by
  by_cases hb : baseI r = 0
  · exact ref27_Check_ok r w hr hb
  · exact ref27_Check_pre r w hr hb
end Go.Proofs.YtdhakoecjmaebaaGreat
