/-
  garmentref38.SamePlies.
-/
import Derived.Test.YtdhakoecjmaebaaSame8
namespace Go.Proofs.Ytdhakoecjmaebaa
open Go.RowKit
set_option linter.unusedSimpArgs false
set_option linter.unusedVariables false

def samePl (l m : List Py) : Bool := decide (l.map Py.pl = m.map Py.pl)
theorem samePl_no {l m : List Py} {k : Nat} (h1 : k < l.length) (h2 : k < m.length) (h : ¬ (l[k].lot = m[k].lot ∧ l[k].parts = m[k].parts)) : samePl l m = false := by
  unfold samePl
  rw [decide_eq_false_iff_not]
  intro e
  have : (l.map Py.pl)[k]'(by simpa using h1) = (m.map Py.pl)[k]'(by simpa using h2) := by simp only [e]
  rw [List.getElem_map, List.getElem_map] at this
  unfold Py.pl at this
  injection this with a b
  exact h ⟨a, b⟩
theorem samePl_yes {l m : List Py} (hl : l.length = m.length) (h : ∀ i (h1 : i < l.length) (h2 : i < m.length), l[i].lot = m[i].lot ∧ l[i].parts = m[i].parts) : samePl l m = true := by
  unfold samePl
  rw [decide_eq_true_iff]
  refine List.ext_getElem (by simpa using hl) fun i h1 h2 => ?_
  rw [List.getElem_map, List.getElem_map]
  obtain ⟨a, b⟩ := h i (by simpa using h1) (by simpa using h2)
  unfold Py.pl
  rw [a, b]
theorem samePl_len {l m : List Py} (hl : l.length ≠ m.length) : samePl l m = false := by
  unfold samePl
  rw [decide_eq_false_iff_not]
  intro e
  exact hl (by have := congrArg List.length e; simpa using this)

set_option maxHeartbeats 4000000 in
theorem ref38_SamePlies (A B : Option Addr) (ca cb : Nat) (l m : List Py) (w : World) (hll : l.length ≤ 65536) (hlm' : m.length ≤ 65536) (ha : Plys w A l) (hb : Plys w B m) (hpl : ∀ y ∈ l, y.parts.length ≤ 1099511627776) :
    Calls Try.prog 7 #[.slice A l.length ca, .slice B m.length cb] w (Ret (.bool (samePl l m)) w) := by
  by_cases hlm : l.length = m.length
  · have d0 : ((l.length : Int) != (m.length : Int)) = false := by simp [hlm]
    go_enter Try.func7, Try.ntmps7
    go_wp2
    go_loopw [5] (fun iv wr => ∃ k : Nat, k ≤ l.length ∧ iv = .int .i64 k ∧ (∀ i (h1 : i < l.length) (h2 : i < m.length), i < k → l[i].lot = m[i].lot ∧ l[i].parts = m[i].parts) ∧ Later w wr) (fun iv _ => l.length - (intOf iv).toNat)
    case atStart => exact ⟨0, by omega, rfl, (fun i _ _ hi => by omega), Later.refl _⟩
    case round =>
      obtain ⟨k, hk, rfl, he, hbr⟩ := hrel
      have He := Lib.hid he
      clear he
      by_cases hlt : k < l.length
      · have hlt2 : k < m.length := by omega
        obtain ⟨ba, oa, rfl, x0, x1, hxk⟩ := (Plys.later ha hbr).at_ hlt
        obtain ⟨bb, ob, rfl, y0, y1, hyk⟩ := (Plys.later hb hbr).at_ hlt2
        have Hno := Lib.hid (samePl_no hlt hlt2)
        have Hst := Lib.hid (show (l[k].lot = m[k].lot ∧ l[k].parts = m[k].parts) → ∀ i (h1 : i < l.length) (h2 : i < m.length), i < k + 1 → l[i].lot = m[i].lot ∧ l[i].parts = m[i].parts from fun h i h1 h2 hi => by
          by_cases e : i = k
          · subst e; exact h
          · exact He.out i h1 h2 (by omega))
        have hpk := hpl _ (List.getElem_mem hlt)
        generalize l[k] = p at *
        generalize m[k] = q at *
        obtain ⟨p0, pA, pC, pP⟩ := p
        obtain ⟨q0, qA, qC, qP⟩ := q
        simp only [] at x0 x1 y0 y1 hxk hyk hpk Hno Hst
        have zx := World.block_lt_of_cell? _ _ x0
        have zy := World.block_lt_of_cell? _ _ y0
        have hk0 : (0 : Int) ≤ (k : Int) := by omega
        have hk1 : (k : Int) < (l.length : Int) := by omega
        have hk2 : (k : Int) < (m.length : Int) := by omega
        clear hlm He
        by_cases hlot : p0 = q0
        · have dl : (p0 != q0) = false := by simp [hlot]
          have HS := Lib.hid (fun W (hW : Later wr W) => ref38_SameParts pA qA pC qC pP qP W hpk (hxk.2.2.1.later hW) (hyk.2.2.1.later hW))
          have Hlot := Lib.hid hlot
          clear hlot
          rcases hd : decide (pP = qP) with _ | _
          · rw [hd] at HS
            have Hf := Lib.hid (Hno.out (fun h => by rw [decide_eq_false_iff_not] at hd; exact hd h.2))
            clear hd
            go_wp2
            go_region_held3 (fun w' : World => (∀ a : Addr, (wr.cell? a).isSome = true → w'.cell? a = wr.cell? a) ∧ Later wr w') (first | assumption | exact keep_call (by assumption) (by assumption) | exact keep_call (by assumption) ((Later.refl _).alloc _) | exact keep_init _)
              (first | (go_at_call 12; (with_reducible refine (HS.out _ (by (have hk := (by assumption : _ ∧ Later wr _).2); exact hk)).mono ?_); rintro e w5 ⟨rfl, hb5⟩))
            rename_i hHw
            go_wp2
            go_ret
            exact ⟨ret_bool Hf.out.symm, hbr.trans hHw.2⟩
          · rw [hd] at HS
            have He2 := Lib.hid (Hst.out ⟨Hlot.out, by rw [decide_eq_true_iff] at hd; exact hd⟩)
            clear hd
            go_wp2
            go_region_held3 (fun w' : World => (∀ a : Addr, (wr.cell? a).isSome = true → w'.cell? a = wr.cell? a) ∧ Later wr w') (first | assumption | exact keep_call (by assumption) (by assumption) | exact keep_call (by assumption) ((Later.refl _).alloc _) | exact keep_init _)
              (first | (go_at_call 12; (with_reducible refine (HS.out _ (by (have hk := (by assumption : _ ∧ Later wr _).2); exact hk)).mono ?_); rintro e w5 ⟨rfl, hb5⟩))
            rename_i hHw
            go_wp2
            go_roundw
            case rel => exact ⟨k + 1, by omega, by go_num, He2.out, hbr.trans hHw.2⟩
            case measure => simp [intOf]; omega
        · have dl : (p0 != q0) = true := by simp [hlot]
          have Hf := Lib.hid (Hno.out (fun h => hlot h.1))
          clear hlot
          go_wp2
          go_quiet (fail)
          go_wp2
          go_ret
          exact ⟨ret_bool Hf.out.symm, hbr.trans (by repeat' (with_reducible first | exact Later.refl _ | assumption | refine Later.drew ?_ | refine Later.drewN ?_ _ | refine Later.alloc ?_ _ | refine Later.put ?_ (by omega) _ | refine Later.trans ?_ (by assumption)))⟩
      · have Hd := Lib.hid (samePl_yes hlm (fun i h1 h2 => He.out i h1 h2 (by omega)))
        clear hlm
        go_wp2
        go_ret
        exact ⟨ret_bool Hd.out.symm, hbr⟩
  · have d0 : ((l.length : Int) != (m.length : Int)) = true := by simp; omega
    have Hd := Lib.hid (samePl_len hlm)
    clear hlm
    go_enter Try.func7, Try.ntmps7
    go_wp2
    go_ret
    exact ⟨ret_bool Hd.out.symm, Later.refl _⟩

end Go.Proofs.Ytdhakoecjmaebaa
