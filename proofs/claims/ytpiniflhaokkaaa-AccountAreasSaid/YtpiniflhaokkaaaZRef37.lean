/-
  Reference 37: common, zones, back, Back, Best return what the program's splice returns.
  Reference 37: Best returns what the program's Best returns.
  Reference 38: cloth, wide, begun, sound, End, joined, twice return what the program's twins return.
-/
import Derived.Test.YtpiniflhaokkaaaZSplB
import Derived.Test.YtpiniflhaokkaaaZSprQ
import Derived.Test.YtpiniflhaokkaaaZDam
import Derived.Test.YtpiniflhaokkaaaZPoly
import Derived.BigRegion
import Derived.StillTailTactics
import Derived.Test.YtpiniflhaokkaaaZSplit
import Derived.Test.YtpiniflhaokkaaaZSprW
import Derived.Test.YtpiniflhaokkaaaZRefP
/- Reference 37: common, zones, back, Back, Best return what the program's splice returns. -/
namespace Go.Proofs.Ytpiniflhaokkaaa
open Go.RowKit
set_option linter.unusedSimpArgs false
set_option linter.unusedVariables false

attribute [local go_sem] ite_min ite_max
end Go.Proofs.Ytpiniflhaokkaaa

/- Reference 37: Best returns what the program's Best returns. -/
namespace Go.Proofs.Ytpiniflhaokkaaa
open Go.RowKit
set_option linter.unusedSimpArgs false
set_option linter.unusedVariables false

end Go.Proofs.Ytpiniflhaokkaaa

/- Reference 38: cloth, wide, begun, sound, End, joined, twice return what the program's twins return. -/
namespace Go.Proofs.Ytpiniflhaokkaaa
open Go.RowKit
set_option linter.unusedSimpArgs false
set_option linter.unusedVariables false

set_option maxHeartbeats 2000000 in
set_option maxRecDepth 100000 in
theorem ref38_sound (C : Option Addr) (cc : Nat) (p : Qd) (rs : List Rl) (w : World) (hr : Rolls w C rs) (hn : rs.length ≤ 65536) :
    Calls Try.prog 58 #[p.agg, .slice C rs.length cc] w (Ret (.bool (clothB p rs)) w) := by
  obtain ⟨a, b, c, d⟩ := p
  unfold Qd.agg clothB
  simp only []
  by_cases h1 : 0 ≤ a
  · have d1 : decide (0 ≤ a) = true := by simpa using h1
    by_cases h2 : a < (rs.length : Int)
    · have d2 : decide (a < (rs.length : Int)) = true := by simpa using h2
      by_cases h3 : 0 ≤ b
      · have d3 : decide (0 ≤ b) = true := by simpa using h3
        by_cases h4 : b < c
        · have d4 : decide (b < c) = true := by simpa using h4
          obtain ⟨n, rfl⟩ : ∃ n : Nat, a = (n : Int) := ⟨a.toNat, by omega⟩
          have hnl : n < rs.length := by omega
          have Hg := Lib.hid (grl_eq hnl)
          obtain ⟨bb, ob, rfl, e0, e1, e2, _⟩ := hr.at_ hnl
          have hbz : bb < w.heap.size := World.block_lt_of_cell? _ _ e0
          generalize rs[n] = r at *
          rw [d1, d2, d3, d4]
          have Hln := Lib.hid (show (grl rs (n : Int).toNat).ln = r.ln by rw [Int.toNat_natCast, Hg.out])
          rw [Hln.out]
          generalize r.ln = ln at *
          go_enter Try.func58, Try.ntmps58
          go_wp2
          go_quiet (fail)
          go_wp2
          go_ret
          exact ⟨rfl, (by repeat' (with_reducible first | exact Later.refl _ | assumption | refine Later.drew ?_ | refine Later.drewN ?_ _ | refine Later.alloc ?_ _ | refine Later.put ?_ (by omega) _ | refine Later.trans ?_ (by assumption)))⟩
        · have d4 : decide (b < c) = false := by simpa using h4
          rw [d1, d2, d3, d4]
          go_enter Try.func58, Try.ntmps58
          go_wp2
          go_quiet (fail)
          go_wp2
          go_ret
          exact ⟨rfl, (by repeat' (with_reducible first | exact Later.refl _ | assumption | refine Later.drew ?_ | refine Later.drewN ?_ _ | refine Later.alloc ?_ _ | refine Later.put ?_ (by omega) _ | refine Later.trans ?_ (by assumption)))⟩
      · have d3 : decide (0 ≤ b) = false := by simpa using h3
        rw [d1, d2, d3]
        go_enter Try.func58, Try.ntmps58
        go_wp2
        go_quiet (fail)
        go_wp2
        go_ret
        exact ⟨rfl, (by repeat' (with_reducible first | exact Later.refl _ | assumption | refine Later.drew ?_ | refine Later.drewN ?_ _ | refine Later.alloc ?_ _ | refine Later.put ?_ (by omega) _ | refine Later.trans ?_ (by assumption)))⟩
    · have d2 : decide (a < (rs.length : Int)) = false := by simpa using h2
      rw [d1, d2]
      go_enter Try.func58, Try.ntmps58
      go_wp2
      go_quiet (fail)
      go_wp2
      go_ret
      exact ⟨rfl, (by repeat' (with_reducible first | exact Later.refl _ | assumption | refine Later.drew ?_ | refine Later.drewN ?_ _ | refine Later.alloc ?_ _ | refine Later.put ?_ (by omega) _ | refine Later.trans ?_ (by assumption)))⟩
  · have d1 : decide (0 ≤ a) = false := by simpa using h1
    rw [d1]
    go_enter Try.func58, Try.ntmps58
    go_wp2
    go_quiet (fail)
    go_wp2
    go_ret
    exact ⟨rfl, (by repeat' (with_reducible first | exact Later.refl _ | assumption | refine Later.drew ?_ | refine Later.drewN ?_ _ | refine Later.alloc ?_ _ | refine Later.put ?_ (by omega) _ | refine Later.trans ?_ (by assumption)))⟩

set_option maxHeartbeats 2000000 in
theorem ref38_cloth (C L : Option Addr) (cc lc nl : Nat) (rs : List Rl) (w : World) (hr : Rolls w C rs) (hn : rs.length ≤ 1099511627776) (hnl : nl ≤ 9223372036854775807) :
    Calls Try.prog 56 #[.slice C rs.length cc, .slice L nl lc] w (Ret (.int .i64 (chkRollsR rs nl)) w) := by
  by_cases h20 : 20 < rs.length
  · have d20 : decide ((20 : Int) < (rs.length : Int)) = true := by simp; omega
    have H := Lib.hid (show chkRollsR rs nl = 5 by unfold chkRollsR; rw [if_pos h20])
    go_enter Try.func56, Try.ntmps56
    go_wp2
    go_ret
    exact ⟨ret_int H.out.symm, (by repeat' (with_reducible first | exact Later.refl _ | assumption | refine Later.drew ?_ | refine Later.drewN ?_ _ | refine Later.alloc ?_ _ | refine Later.put ?_ (by omega) _ | refine Later.trans ?_ (by assumption)))⟩
  have d20 : decide ((20 : Int) < (rs.length : Int)) = false := by simp; omega
  have h65 : rs.length ≤ 20 := by omega
  have H := Lib.hid (show chkRollsR rs nl = if rollsErr rs ≠ 0 then rollsErr rs else if nl ≠ rs.length then 1 else 0 by unfold chkRollsR; rw [if_neg h20])
  go_enter Try.func56, Try.ntmps56
  go_wp2
  go_loopw [5] (fun iv wr => ∃ k : Nat, k ≤ rs.length ∧ iv = .int .i64 k ∧ rollsErr rs = rollsErr (rs.drop k) ∧ Later w wr) (fun iv _ => rs.length - (intOf iv).toNat)
  case atStart => exact ⟨0, by omega, rfl, rfl, Later.refl _⟩
  case round =>
    obtain ⟨k, hk, rfl, he, hb⟩ := hrel
    have He := Lib.hid he
    clear he
    by_cases hlt : k < rs.length
    · obtain ⟨bb, ob, rfl, z0, z1, z2, z3, z4, z5, z6, zok⟩ := (hr.later hb).at_ hlt
      have hbz : bb < wr.heap.size := World.block_lt_of_cell? _ _ z0
      have Hd := Lib.hid (drop_cons' rs k hlt)
      generalize rs[k] = r at *
      have HK := Lib.hid (fun W (hW : Later wr W) => ref27_Check r W (zok.later hW))
      have Hbad := Lib.hid (fun l => rolls_bad (r := r) (l := l))
      have Hgood := Lib.hid (fun l => rolls_good (r := r) (l := l))
      generalize rollI r = er at *
      obtain ⟨rid, rwd, rln, rtl, rta, rtb, fa, fc, fl⟩ := r
      unfold Rl.agg at HK
      simp only [] at HK z0 z1 z2 z3 z4 z5 z6
      rcases Classical.em (er = 0) with h0 | h0
      · subst h0
        go_wp2_with (first | (go_at_call 71; (with_reducible refine (HK.out _ (by repeat' (with_reducible first | exact Later.refl _ | assumption | refine Later.drew ?_ | refine Later.drewN ?_ _ | refine Later.alloc ?_ _ | refine Later.put ?_ (by omega) _ | refine Later.trans ?_ (by assumption)))).mono ?_); rintro e w5 ⟨rfl, hb5⟩))
        go_roundw
        case rel => exact ⟨k + 1, by omega, by go_num, by rw [He.out, Hd.out, Hgood.out _ (by first | trivial | rfl)], (by repeat' (with_reducible first | exact Later.refl _ | assumption | refine Later.drew ?_ | refine Later.drewN ?_ _ | refine Later.alloc ?_ _ | refine Later.put ?_ (by omega) _ | refine Later.trans ?_ (by assumption)))⟩
        case measure => simp [intOf]; omega
      · have dn : (er != 0) = true := by simpa using h0
        go_wp2_with (first | (go_at_call 71; (with_reducible refine (HK.out _ (by repeat' (with_reducible first | exact Later.refl _ | assumption | refine Later.drew ?_ | refine Later.drewN ?_ _ | refine Later.alloc ?_ _ | refine Later.put ?_ (by omega) _ | refine Later.trans ?_ (by assumption)))).mono ?_); rintro e w5 ⟨rfl, hb5⟩))
        go_ret
        exact ⟨ret_int (by rw [H.out, He.out, Hd.out, Hbad.out _ h0, if_pos h0]), (by repeat' (with_reducible first | exact Later.refl _ | assumption | refine Later.drew ?_ | refine Later.drewN ?_ _ | refine Later.alloc ?_ _ | refine Later.put ?_ (by omega) _ | refine Later.trans ?_ (by assumption)))⟩
    · have H0 := Lib.hid (show rollsErr rs = 0 by rw [He.out, List.drop_eq_nil_of_le (by omega)]; rfl)
      by_cases hq : nl = rs.length
      · have HR := Lib.hid (show chkRollsR rs nl = 0 by rw [H.out, H0.out]; simp [hq])
        have dq : ((nl : Int) != (rs.length : Int)) = false := by simp [hq]
        have Hq := Lib.hid hq
        clear hq
        go_wp2
        go_ret
        exact ⟨ret_int HR.out.symm, hb⟩
      · have HR := Lib.hid (show chkRollsR rs nl = 1 by rw [H.out, H0.out]; simp [hq])
        have dq : ((nl : Int) != (rs.length : Int)) = true := by simp; omega
        go_wp2
        go_ret
        exact ⟨ret_int HR.out.symm, hb⟩

/- Cloth that is used twice. -/
theorem clash_symm {p q : Qd} : Clash p q ↔ Clash q p := by
  unfold Clash
  constructor <;> (rintro ⟨a, b, c⟩; exact ⟨a.symm, c, b⟩)
theorem noTwice_take {l : List Qd} {k : Nat} (hk : k < l.length) : NoTwice (l.take (k + 1)) ↔ NoTwice (l.take k) ∧ ∀ j (hj : j < k), ¬ Clash l[k] (l[j]'(by omega)) := by
  rw [List.take_succ_eq_append_getElem hk]
  unfold NoTwice
  rw [List.pairwise_append]
  constructor
  · rintro ⟨a, _, c⟩
    refine ⟨a, fun j hj h => c (l[j]'(by omega)) ?_ _ (List.mem_singleton.2 rfl) (clash_symm.1 h)⟩
    rw [List.mem_take_iff_getElem]
    exact ⟨j, by omega, rfl⟩
  · rintro ⟨a, c⟩
    refine ⟨a, List.pairwise_singleton .., fun p hp q hq h => ?_⟩
    rw [List.mem_singleton.1 hq] at h
    rw [List.mem_take_iff_getElem] at hp
    obtain ⟨j, hj, rfl⟩ := hp
    exact c j (by omega) (clash_symm.1 h)
theorem noTwice_pre {l : List Qd} {k : Nat} (h : ¬ NoTwice (l.take k)) : ¬ NoTwice l := fun hN => h (hN.sublist (List.take_sublist _ _))
def twiceB (l : List Qd) : Bool := !decide (NoTwice l)
set_option maxHeartbeats 4000000 in
set_option maxRecDepth 100000 in
theorem ref38_twice (B : Option Addr) (cb : Nat) (l : List Qd) (w : World) (hB : Qds w B l) (hn : l.length ≤ 65536) :
    Calls Try.prog 59 #[.slice B l.length cb] w (Ret (.bool (twiceB l)) w) := by
  have Hyes := Lib.hid (show ∀ k, ¬ NoTwice (l.take k) → true = twiceB l from fun k h => by unfold twiceB; rw [decide_eq_false (noTwice_pre h)]; rfl)
  have Hno := Lib.hid (show NoTwice l → false = twiceB l from fun h => by unfold twiceB; rw [decide_eq_true h]; rfl)
  go_enter Try.func59, Try.ntmps59
  go_wp2
  go_loopw [3] (fun iv wr => ∃ k : Nat, k ≤ l.length ∧ iv = .int .i64 k ∧ NoTwice (l.take k) ∧ Later w wr) (fun iv _ => l.length - (intOf iv).toNat)
  case atStart => exact ⟨0, by omega, rfl, by rw [List.take_zero]; exact List.Pairwise.nil, Later.refl _⟩
  case round =>
    obtain ⟨k, hk, rfl, he, hb⟩ := hrel
    have He := Lib.hid he
    clear he
    by_cases hlt : k < l.length
    · have Hst := Lib.hid (noTwice_take hlt)
      have hk0 : (0 : Int) ≤ (k : Int) := by omega
      have hk1 : (k : Int) < (l.length : Int) := by omega
      obtain ⟨wo, hwo⟩ : ∃ wo : World, wo = wr := ⟨_, rfl⟩
      rw [← hwo]
      rw [← hwo] at hb
      clear hwo
      go_upto_region 5 with fail
      go_loopw [4] (fun jv wq => ∃ j : Nat, j ≤ k ∧ jv = .int .i64 j ∧ (∀ i (hi : i < j) (hi2 : i < l.length), ¬ Clash l[k] l[i]) ∧ Later wo wq) (fun jv _ => k - (intOf jv).toNat)
      case atStart => exact ⟨0, by omega, rfl, (fun i hi => by omega), Later.refl _⟩
      case round =>
        obtain ⟨j, hj, rfl, hc, hbj⟩ := hrel
        have Hc := Lib.hid hc
        clear hc
        by_cases hjl : j < k
        · have hjl2 : j < l.length := by omega
          obtain ⟨b, o, rfl, hx⟩ := ((hB.later hb).later hbj) (by omega)
          obtain ⟨x0, x1, x2, x3⟩ := hx.get hlt
          obtain ⟨y0, y1, y2, y3⟩ := hx.get hjl2
          have Hcl := Lib.hid (show Clash l[k] l[j] → ¬ NoTwice (l.take (k + 1)) from fun h h2 => (Hst.out.1 h2).2 j hjl h)
          have Hcn := Lib.hid (show ¬ Clash l[k] l[j] → ∀ i (hi : i < j + 1) (hi2 : i < l.length), ¬ Clash l[k] l[i] from fun h i hi hi2 => by
            by_cases e : i = j
            · subst e; exact h
            · exact Hc.out i (by omega) hi2)
          have hj0 : (0 : Int) ≤ (j : Int) := by omega
          have hj1 : (j : Int) < (l.length : Int) := by omega
          generalize l[k] = p at *
          generalize l[j] = q at *
          obtain ⟨pa, pb, pc, pd⟩ := p
          obtain ⟨qa, qb, qc, qd⟩ := q
          unfold Clash at Hcl
          simp only [] at x0 x1 x2 x3 y0 y1 y2 y3 Hcl
          have zb := World.block_lt_of_cell? _ _ x0
          by_cases h1 : pa = qa
          · have e1 : (pa == qa) = true := by simpa using h1
            by_cases h2 : pb < qc
            · have e2 : decide (pb < qc) = true := by simpa using h2
              by_cases h3 : qb < pc
              · have e3 : decide (qb < pc) = true := by simpa using h3
                have HR := Lib.hid (Hyes.out _ (Hcl.out ⟨h1, h2, h3⟩))
                clear h1
                go_wp2
                go_quiet (fail)
                go_wp2
                go_ret
                exact ⟨ret_bool HR.out, hb.trans (hbj.trans (by repeat' (with_reducible first | exact Later.refl _ | assumption | refine Later.drew ?_ | refine Later.drewN ?_ _ | refine Later.alloc ?_ _ | refine Later.put ?_ (by omega) _ | refine Later.trans ?_ (by assumption))))⟩
              · have e3 : decide (qb < pc) = false := by simpa using h3
                have HR := Lib.hid (Hcn.out (by rintro ⟨_, _, h⟩; exact h3 h))
                clear h1
                go_wp2
                go_quiet (fail)
                go_wp2
                go_roundw
                case rel => exact ⟨j + 1, by omega, by go_num, HR.out, hbj.trans (by repeat' (with_reducible first | exact Later.refl _ | assumption | refine Later.drew ?_ | refine Later.drewN ?_ _ | refine Later.alloc ?_ _ | refine Later.put ?_ (by omega) _ | refine Later.trans ?_ (by assumption)))⟩
                case measure => simp [intOf]; omega
            · have e2 : decide (pb < qc) = false := by simpa using h2
              have HR := Lib.hid (Hcn.out (by rintro ⟨_, h, _⟩; exact h2 h))
              clear h1
              go_wp2
              go_quiet (fail)
              go_wp2
              go_roundw
              case rel => exact ⟨j + 1, by omega, by go_num, HR.out, hbj.trans (by repeat' (with_reducible first | exact Later.refl _ | assumption | refine Later.drew ?_ | refine Later.drewN ?_ _ | refine Later.alloc ?_ _ | refine Later.put ?_ (by omega) _ | refine Later.trans ?_ (by assumption)))⟩
              case measure => simp [intOf]; omega
          · have e1 : (pa == qa) = false := by simpa using h1
            have HR := Lib.hid (Hcn.out (by rintro ⟨h, _, _⟩; exact h1 h))
            clear h1
            go_wp2
            go_quiet (fail)
            go_wp2
            go_roundw
            case rel => exact ⟨j + 1, by omega, by go_num, HR.out, hbj.trans (by repeat' (with_reducible first | exact Later.refl _ | assumption | refine Later.drew ?_ | refine Later.drewN ?_ _ | refine Later.alloc ?_ _ | refine Later.put ?_ (by omega) _ | refine Later.trans ?_ (by assumption)))⟩
            case measure => simp [intOf]; omega
        · have HR := Lib.hid (Hst.out.2 ⟨He.out, fun i hi => Hc.out i (by omega) (by omega)⟩)
          go_wp2
          go_roundw
          case rel => exact ⟨k + 1, by omega, by go_num, HR.out, hb.trans hbj⟩
          case measure => simp [intOf]; omega
    · have HR := Lib.hid (Hno.out (by rw [← List.take_of_length_le (show l.length ≤ k by omega)]; exact He.out))
      go_wp2
      go_ret
      exact ⟨ret_bool HR.out, hb⟩

end Go.Proofs.Ytpiniflhaokkaaa
