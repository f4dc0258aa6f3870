/-
  garmentref38.SameParts, SameRests; garmentlaw38.box, bolt.
-/
import Derived.Test.YtdhakoecjmaebaaLaid
namespace Go.Proofs.Ytdhakoecjmaebaa
open Go.RowKit
set_option linter.unusedSimpArgs false
set_option linter.unusedVariables false

deriving instance DecidableEq for Qd
theorem qd_ext {l m : List Qd} (hl : l.length = m.length) (h : ∀ i, i < l.length → l[i]? = m[i]?) : l = m := by
  apply List.ext_getElem? 
  intro i
  by_cases hi : i < l.length
  · exact h i hi
  · rw [List.getElem?_eq_none (by omega), List.getElem?_eq_none (by omega)]
set_option maxHeartbeats 4000000 in
theorem ref38_SameParts (A B : Option Addr) (ca cb : Nat) (l m : List Qd) (w : World) (hll : l.length ≤ 1099511627776) (ha : Qds w A l) (hb : Qds w B m) :
    Calls Try.prog 12 #[.slice A l.length ca, .slice B m.length cb] w (Ret (.bool (decide (l = m))) w) := by
  by_cases hlm : l.length = m.length
  · have d0 : ((l.length : Int) != (m.length : Int)) = false := by simp [hlm]
    go_enter Try.func12, Try.ntmps12
    go_wp2
    go_loopw [4, 5] (fun _ iv wr => ∃ k : Nat, k ≤ l.length ∧ iv = .int .i64 k ∧ (∀ i, i < k → l[i]? = m[i]?) ∧ Later w wr) (fun _ iv _ => l.length - (intOf iv).toNat)
    case atStart => exact ⟨0, by omega, rfl, (fun i hi => by omega), Later.refl _⟩
    case round =>
      obtain ⟨k, hk, rfl, he, hbr⟩ := hrel
      have He := Lib.hid he
      clear he
      by_cases hlt : k < l.length
      · have hlt2 : k < m.length := by omega
        obtain ⟨ba, oa, rfl, hx⟩ := (ha.later hbr) (by omega)
        obtain ⟨bb, ob, rfl, hy⟩ := (hb.later hbr) (by omega)
        obtain ⟨x0, x1, x2, x3⟩ := hx k _ (List.getElem?_eq_getElem hlt)
        obtain ⟨y0, y1, y2, y3⟩ := hy k _ (List.getElem?_eq_getElem hlt2)
        have Hk := Lib.hid (List.getElem?_eq_getElem hlt)
        have Hm := Lib.hid (List.getElem?_eq_getElem hlt2)
        generalize l[k] = p at *
        generalize m[k] = q at *
        obtain ⟨p0, p1, p2, p3⟩ := p
        obtain ⟨q0, q1, q2, q3⟩ := q
        simp only [] at x0 x1 x2 x3 y0 y1 y2 y3
        have zx := World.block_lt_of_cell? _ _ x0
        have zy := World.block_lt_of_cell? _ _ y0
        have hk0 : (0 : Int) ≤ (k : Int) := by omega
        have hk1 : (k : Int) < (l.length : Int) := by omega
        have hk2 : (k : Int) < (m.length : Int) := by omega
        clear hlm
        by_cases hpq : p0 = q0 ∧ p1 = q1 ∧ p2 = q2 ∧ p3 = q3
        · obtain ⟨rfl, rfl, rfl, rfl⟩ := hpq
          go_wp2
          go_quiet (fail)
          go_wp2
          go_roundw
          case rel => exact ⟨k + 1, by omega, by go_num, (fun i hi => by
            by_cases h : i = k
            · rw [h, Hk.out, Hm.out]
            · exact He.out i (by omega)), hbr.trans (by repeat' (with_reducible first | exact Later.refl _ | assumption | refine Later.drew ?_ | refine Later.drewN ?_ _ | refine Later.alloc ?_ _ | refine Later.put ?_ (by omega) _ | refine Later.trans ?_ (by assumption)))⟩
          case measure => simp [intOf]; omega
        · have Hd := Lib.hid (show decide (l = m) = false by
            rw [decide_eq_false_iff_not]
            intro h
            have h2 := Hk.out
            rw [h, Hm.out] at h2
            injection h2 with h2
            injection h2 with a b c d
            exact hpq ⟨a.symm, b.symm, c.symm, d.symm⟩)
          have hc : ¬ p0 = q0 ∨ (p0 = q0 ∧ ¬ p1 = q1) ∨ (p0 = q0 ∧ p1 = q1 ∧ ¬ p2 = q2) ∨ (p0 = q0 ∧ p1 = q1 ∧ p2 = q2 ∧ ¬ p3 = q3) := by omega
          clear hpq
          rcases hc with h | ⟨rfl, h⟩ | ⟨rfl, rfl, h⟩ | ⟨rfl, rfl, rfl, h⟩
          · have hb0 : (p0 == q0) = false := by simpa using h
            go_wp2
            go_quiet (fail)
            go_wp2
            go_ret
            exact ⟨ret_bool Hd.out.symm, hbr.trans (by repeat' (with_reducible first | exact Later.refl _ | assumption | refine Later.drew ?_ | refine Later.drewN ?_ _ | refine Later.alloc ?_ _ | refine Later.put ?_ (by omega) _ | refine Later.trans ?_ (by assumption)))⟩
          · have hb0 : (p1 == q1) = false := by simpa using h
            go_wp2
            go_quiet (fail)
            go_wp2
            go_ret
            exact ⟨ret_bool Hd.out.symm, hbr.trans (by repeat' (with_reducible first | exact Later.refl _ | assumption | refine Later.drew ?_ | refine Later.drewN ?_ _ | refine Later.alloc ?_ _ | refine Later.put ?_ (by omega) _ | refine Later.trans ?_ (by assumption)))⟩
          · have hb0 : (p2 == q2) = false := by simpa using h
            go_wp2
            go_quiet (fail)
            go_wp2
            go_ret
            exact ⟨ret_bool Hd.out.symm, hbr.trans (by repeat' (with_reducible first | exact Later.refl _ | assumption | refine Later.drew ?_ | refine Later.drewN ?_ _ | refine Later.alloc ?_ _ | refine Later.put ?_ (by omega) _ | refine Later.trans ?_ (by assumption)))⟩
          · have hb0 : (p3 == q3) = false := by simpa using h
            go_wp2
            go_quiet (fail)
            go_wp2
            go_ret
            exact ⟨ret_bool Hd.out.symm, hbr.trans (by repeat' (with_reducible first | exact Later.refl _ | assumption | refine Later.drew ?_ | refine Later.drewN ?_ _ | refine Later.alloc ?_ _ | refine Later.put ?_ (by omega) _ | refine Later.trans ?_ (by assumption)))⟩
      · have Hd := Lib.hid (show decide (l = m) = true by
          rw [decide_eq_true_iff]
          exact qd_ext hlm fun i hi => He.out i (by omega))
        clear hlm
        go_wp2
        go_ret
        exact ⟨ret_bool Hd.out.symm, hbr⟩
  · have d0 : ((l.length : Int) != (m.length : Int)) = true := by simp; omega
    go_enter Try.func12, Try.ntmps12
    go_wp2
    go_ret
    exact ⟨ret_bool (by rw [eq_comm, decide_eq_false_iff_not]; intro h; exact hlm (by rw [h])), Later.refl _⟩
set_option maxHeartbeats 4000000 in
theorem ref38_SameRests (A B : Option Addr) (ca cb : Nat) (l m : List Qd) (w : World) (hll : l.length ≤ 1099511627776) (ha : Qds w A l) (hb : Qds w B m) :
    Calls Try.prog 13 #[.slice A l.length ca, .slice B m.length cb] w (Ret (.bool (decide (l = m))) w) := by
  by_cases hlm : l.length = m.length
  · have d0 : ((l.length : Int) != (m.length : Int)) = false := by simp [hlm]
    go_enter Try.func13, Try.ntmps13
    go_wp2
    go_loopw [4, 5] (fun _ iv wr => ∃ k : Nat, k ≤ l.length ∧ iv = .int .i64 k ∧ (∀ i, i < k → l[i]? = m[i]?) ∧ Later w wr) (fun _ iv _ => l.length - (intOf iv).toNat)
    case atStart => exact ⟨0, by omega, rfl, (fun i hi => by omega), Later.refl _⟩
    case round =>
      obtain ⟨k, hk, rfl, he, hbr⟩ := hrel
      have He := Lib.hid he
      clear he
      by_cases hlt : k < l.length
      · have hlt2 : k < m.length := by omega
        obtain ⟨ba, oa, rfl, hx⟩ := (ha.later hbr) (by omega)
        obtain ⟨bb, ob, rfl, hy⟩ := (hb.later hbr) (by omega)
        obtain ⟨x0, x1, x2, x3⟩ := hx k _ (List.getElem?_eq_getElem hlt)
        obtain ⟨y0, y1, y2, y3⟩ := hy k _ (List.getElem?_eq_getElem hlt2)
        have Hk := Lib.hid (List.getElem?_eq_getElem hlt)
        have Hm := Lib.hid (List.getElem?_eq_getElem hlt2)
        generalize l[k] = p at *
        generalize m[k] = q at *
        obtain ⟨p0, p1, p2, p3⟩ := p
        obtain ⟨q0, q1, q2, q3⟩ := q
        simp only [] at x0 x1 x2 x3 y0 y1 y2 y3
        have zx := World.block_lt_of_cell? _ _ x0
        have zy := World.block_lt_of_cell? _ _ y0
        have hk0 : (0 : Int) ≤ (k : Int) := by omega
        have hk1 : (k : Int) < (l.length : Int) := by omega
        have hk2 : (k : Int) < (m.length : Int) := by omega
        clear hlm
        by_cases hpq : p0 = q0 ∧ p1 = q1 ∧ p2 = q2 ∧ p3 = q3
        · obtain ⟨rfl, rfl, rfl, rfl⟩ := hpq
          go_wp2
          go_quiet (fail)
          go_wp2
          go_roundw
          case rel => exact ⟨k + 1, by omega, by go_num, (fun i hi => by
            by_cases h : i = k
            · rw [h, Hk.out, Hm.out]
            · exact He.out i (by omega)), hbr.trans (by repeat' (with_reducible first | exact Later.refl _ | assumption | refine Later.drew ?_ | refine Later.drewN ?_ _ | refine Later.alloc ?_ _ | refine Later.put ?_ (by omega) _ | refine Later.trans ?_ (by assumption)))⟩
          case measure => simp [intOf]; omega
        · have Hd := Lib.hid (show decide (l = m) = false by
            rw [decide_eq_false_iff_not]
            intro h
            have h2 := Hk.out
            rw [h, Hm.out] at h2
            injection h2 with h2
            injection h2 with a b c d
            exact hpq ⟨a.symm, b.symm, c.symm, d.symm⟩)
          have hc : ¬ p0 = q0 ∨ (p0 = q0 ∧ ¬ p1 = q1) ∨ (p0 = q0 ∧ p1 = q1 ∧ ¬ p2 = q2) ∨ (p0 = q0 ∧ p1 = q1 ∧ p2 = q2 ∧ ¬ p3 = q3) := by omega
          clear hpq
          rcases hc with h | ⟨rfl, h⟩ | ⟨rfl, rfl, h⟩ | ⟨rfl, rfl, rfl, h⟩
          · have hb0 : (p0 == q0) = false := by simpa using h
            go_wp2
            go_quiet (fail)
            go_wp2
            go_ret
            exact ⟨ret_bool Hd.out.symm, hbr.trans (by repeat' (with_reducible first | exact Later.refl _ | assumption | refine Later.drew ?_ | refine Later.drewN ?_ _ | refine Later.alloc ?_ _ | refine Later.put ?_ (by omega) _ | refine Later.trans ?_ (by assumption)))⟩
          · have hb0 : (p1 == q1) = false := by simpa using h
            go_wp2
            go_quiet (fail)
            go_wp2
            go_ret
            exact ⟨ret_bool Hd.out.symm, hbr.trans (by repeat' (with_reducible first | exact Later.refl _ | assumption | refine Later.drew ?_ | refine Later.drewN ?_ _ | refine Later.alloc ?_ _ | refine Later.put ?_ (by omega) _ | refine Later.trans ?_ (by assumption)))⟩
          · have hb0 : (p2 == q2) = false := by simpa using h
            go_wp2
            go_quiet (fail)
            go_wp2
            go_ret
            exact ⟨ret_bool Hd.out.symm, hbr.trans (by repeat' (with_reducible first | exact Later.refl _ | assumption | refine Later.drew ?_ | refine Later.drewN ?_ _ | refine Later.alloc ?_ _ | refine Later.put ?_ (by omega) _ | refine Later.trans ?_ (by assumption)))⟩
          · have hb0 : (p3 == q3) = false := by simpa using h
            go_wp2
            go_quiet (fail)
            go_wp2
            go_ret
            exact ⟨ret_bool Hd.out.symm, hbr.trans (by repeat' (with_reducible first | exact Later.refl _ | assumption | refine Later.drew ?_ | refine Later.drewN ?_ _ | refine Later.alloc ?_ _ | refine Later.put ?_ (by omega) _ | refine Later.trans ?_ (by assumption)))⟩
      · have Hd := Lib.hid (show decide (l = m) = true by
          rw [decide_eq_true_iff]
          exact qd_ext hlm fun i hi => He.out i (by omega))
        clear hlm
        go_wp2
        go_ret
        exact ⟨ret_bool Hd.out.symm, hbr⟩
  · have d0 : ((l.length : Int) != (m.length : Int)) = true := by simp; omega
    go_enter Try.func13, Try.ntmps13
    go_wp2
    go_ret
    exact ⟨ret_bool (by rw [eq_comm, decide_eq_false_iff_not]; intro h; exact hlm (by rw [h])), Later.refl _⟩

/-- The points, in a block of the call's own. -/
def RetBox (ps : List Pt) (w : World) (e : Ending) (w' : World) : Prop := ∃ g c, e = .returned (.slice (some ⟨g, 0, none⟩) ps.length c) ∧ ps.length ≤ c ∧ c ≤ maxLen ∧ w.heap.size ≤ g ∧ g < w'.heap.size ∧ PtsAt w' g 0 ps ∧ Later w w'
set_option maxHeartbeats 1000000 in
theorem law38_box (a b : Int) (w : World) : Calls Try.prog 24 #[.int .i64 a, .int .i64 b] w (RetBox (rectPts a 0 b 5) w) := by
  go_enter Try.func24, Try.ntmps24
  go_wp2
  go_ret
  exact ⟨w.heap.size, 4, rfl, Nat.le_refl _, by decide, Nat.le_refl _, by simp, pts_four (Blk.new w _ _), (by repeat' (first | exact Later.refl _ | assumption | refine Later.drew ?_ | refine Later.drewN ?_ _ | refine Later.alloc ?_ _ | refine Later.put ?_ (by omega) _ | refine Later.trans ?_ (by assumption)))⟩
@[go_sem] theorem build_roll012 (s : ByteArray) (a b : Int) (w : World) : (Instr.build 36 #[(0, .string s), (1, .int .i64 a), (2, .int .i64 b)]).run Try.prog w = .ok (.agg #[.string s, .int .i64 a, .int .i64 b, .int .i64 0, .int .i64 0, .int .i64 0, .slice none 0 0]) w := run_build w 36 _ _ (by kernel_rfl)
set_option maxHeartbeats 1000000 in
theorem law38_bolt (s : ByteArray) (n : Int) (w : World) : Calls Try.prog 25 #[.string s, .int .i64 n] w (Ret (.agg #[.string s, .int .i64 10, .int .i64 n, .int .i64 0, .int .i64 0, .int .i64 0, .slice none 0 0]) w) := by
  go_enter Try.func25, Try.ntmps25
  go_wp2
  refine bodyPost_ret (v := .agg #[.string s, .int .i64 10, .int .i64 n, .int .i64 0, .int .i64 0, .int .i64 0, .slice none 0 0]) (by simp [results, Try.results25, go_sem]) rfl ⟨rfl, (by repeat' (with_reducible first | exact Later.refl _ | assumption | refine Later.drew ?_ | refine Later.drewN ?_ _ | refine Later.alloc ?_ _ | refine Later.put ?_ (by omega) _ | refine Later.trans ?_ (by assumption)))⟩

/- The example. -/
@[go_sem] theorem build_marker01 (a b : Int) (w : World) : (Instr.build 27 #[(0, .int .i64 a), (1, .int .i64 b)]).run Try.prog w = .ok (.agg #[.int .i64 a, .int .i64 b, .int .i64 0, .int .i64 0, .slice none 0 0, .slice none 0 0]) w := run_build w 27 _ _ (by kernel_rfl)
@[go_sem] theorem build_case8 (a b c d : Int) (A1 A2 A3 A4 A5 A6 : Option Addr) (n1 n2 n3 n4 n5 n6 c1 c2 c3 c4 c5 c6 : Nat) (w : World) : (Instr.build 31 #[(0, .agg #[.int .i64 a, .int .i64 b, .int .i64 c, .int .i64 d, .slice A1 n1 c1, .slice A2 n2 c2]), (1, .slice A3 n3 c3), (2, .slice A4 n4 c4), (3, .slice A5 n5 c5), (4, .slice A6 n6 c6)]).run Try.prog w = .ok (.agg #[.int .i64 a, .int .i64 b, .int .i64 c, .int .i64 d, .slice A1 n1 c1, .slice A2 n2 c2, .slice A3 n3 c3, .slice A4 n4 c4, .slice A5 n5 c5, .slice A6 n6 c6]) w := run_build w 31 _ _ (by kernel_rfl)
end Go.Proofs.Ytdhakoecjmaebaa
