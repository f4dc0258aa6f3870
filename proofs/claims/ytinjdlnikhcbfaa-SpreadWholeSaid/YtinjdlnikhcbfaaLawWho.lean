/-
  SpreadWhole, walked.
-/
import Derived.Test.YtinjdlnikhcbfaaLaidB
namespace Go.Proofs.Ytinjdlnikhcbfaa
open Go.RowKit
set_option linter.unusedSimpArgs false
set_option linter.unusedVariables false

set_option maxHeartbeats 8000000 in
set_option maxRecDepth 100000 in
theorem law38_SpreadWhole (hex : ∀ W, Calls Try.prog 16 #[] W (Ret (.bool true) W)) (c : C8) (w : World) (hc : C8Ok w c) :
    Calls Try.prog 6 #[c.agg] w (Ret (.bool true) w) := by
  have HX := Lib.hid hex
  by_cases hok : few8 c = true ∧ (spR c).2.2 = 0
  · obtain ⟨hfew, hz⟩ := hok
    have hwh := whole_of (laid_ok hz).1
    have hpb0 := laid_part (laid_ok hz).1
    obtain ⟨a1, a2, a3, a4, a5, a6, a7⟩ := few8_all hfew
    have HL2 := Lib.hid (fun W (hW : Later w W) => law38_laid_yes c W (hc.later hW) hfew hz)
    have hl1 := (laid_ok hz).1.len1
    unfold C8.agg LaidYes at HL2
    unfold C8.agg
    clear hfew hz
    have HB := Lib.hid (fun (p : List Pt) A n W (h1 : p.length ≤ 12) (h2 : p.length ≤ n) (hW : Pts W A p) (hk : checkI p = 0) => polygon_Box_ok A n p W (by omega) h2 hW hk)
    have hps := hc.ps
    obtain ⟨len, wd, rx, ry, s1, c1, sz, s2, c2, pl, qa, qc, ps, ra, rc, rs, la, lc, lots, aa, ac, plies⟩ := c
    simp only [] at HL2 hps a2 a7 hwh hpb0 hl1 ⊢
    go_enter Try.func6, Try.ntmps6
    go_upto_region 5 with (first | (go_at_call 27; (with_reducible refine (HL2.out _ (by repeat' (with_reducible first | exact Later.refl _ | assumption | refine Later.drew ?_ | refine Later.drewN ?_ _ | refine Later.alloc ?_ _ | refine Later.put ?_ (by omega) _ | refine Later.trans ?_ (by assumption)))).mono ?_); rintro e w2 ⟨S1, d1, S2, d2, P, pc, X, xc, ys, rfl, hys, h40, hpc, hpm, _, _, hP, _, hb2⟩))
    have hwh' : ∀ y ∈ ys, ∀ p ∈ ps, checkI p = 0 ∧ 0 ≤ (loOf p).x ∧ (hiOf p).x ≤ len ∧ ∃ q ∈ y.parts, q.d ≤ (loOf p).x ∧ (hiOf p).x ≤ endQ q := fun y hy p hp => hwh (Py.pl y) (by rw [← hys]; exact List.mem_map_of_mem hy) p hp
    have hpb : ∀ y ∈ ys, ∀ q ∈ y.parts, QdB q := fun y hy q hq => (hpb0 (Py.pl y) (by rw [← hys]; exact List.mem_map_of_mem hy) q hq).1
    clear hwh hpb0 hys
    refine name_world (fun W3 hW3 => ?_)
    have hl3 : Later w2 W3 := by rw [hW3]; exact (by repeat' (with_reducible first | exact Later.refl _ | assumption | refine Later.drew ?_ | refine Later.drewN ?_ _ | refine Later.alloc ?_ _ | refine Later.put ?_ (by omega) _ | refine Later.trans ?_ (by assumption)))
    have hlw : Later w W3 := by
      have : Later w w2 := (by repeat' (with_reducible first | exact Later.refl _ | assumption | refine Later.drew ?_ | refine Later.drewN ?_ _ | refine Later.alloc ?_ _ | refine Later.put ?_ (by omega) _ | refine Later.trans ?_ (by assumption)))
      exact this.trans hl3
    have D3 : Blk W3 w2.heap.size 36 #[.int .i64 len, .int .i64 wd, .int .i64 rx, .int .i64 ry, .slice S1 sz.length d1, .slice S2 pl.length d2, .slice P ys.length pc] := by rw [hW3]; exact (by repeat' (with_reducible first | assumption | (refine Blk.newAt ?_; simp; done) | refine Blk.alloc ?_ _ | refine Blk.drew ?_ | refine Blk.drewN ?_ _ | refine Blk.later ?_ (by assumption)))
    have D1 : Blk W3 w.heap.size 31 #[.int .i64 len, .int .i64 wd, .int .i64 rx, .int .i64 ry, .slice s1 sz.length c1, .slice s2 pl.length c2, .slice qa ps.length qc, .slice ra rs.length rc, .slice la lots.length lc, .slice aa plies.length ac] := Blk.later (Blk.later (by repeat' (with_reducible first | assumption | (refine Blk.newAt ?_; simp; done) | refine Blk.alloc ?_ _ | refine Blk.drew ?_ | refine Blk.drewN ?_ _ | refine Blk.later ?_ (by assumption))) hb2) hl3
    clear hW3
    go_loopw [6] (fun iv wr => ∃ i : Nat, i ≤ ys.length ∧ iv = .int .i64 i ∧ Later W3 wr) (fun iv _ => ys.length - (intOf iv).toNat)
    case atStart => exact ⟨0, by omega, rfl, Later.refl _⟩
    case round =>
      obtain ⟨i, hi, rfl, hb⟩ := hrel
      have l6 : wr.cell? ⟨w2.heap.size, 6, none⟩ = some (.slice P ys.length pc) := (D3.later hb).cell 6
      have zl := (D3.later hb).lt
      by_cases hlt : i < ys.length
      · have hPi := (Plys.later hP (hl3.trans hb)).at_ hlt
        have hwi := hwh' _ (List.getElem_mem hlt)
        have hi0 : (0 : Int) ≤ (i : Int) := by omega
        have hi1 : (i : Int) < (ys.length : Int) := by omega
        go_upto_region 8 with fail
        have hlwr : Later W3 wr := hb
        obtain ⟨wi, hwi0⟩ : ∃ wi : World, wi = wr := ⟨_, rfl⟩
        rw [← hwi0]
        go_loopw [7] (fun kv wq => ∃ k : Nat, k ≤ ps.length ∧ kv = .int .i64 k ∧ Later wi wq) (fun kv _ => ps.length - (intOf kv).toNat)
        case atStart => exact ⟨0, by omega, rfl, Later.refl _⟩
        case round =>
          obtain ⟨k, hk, rfl, hbk⟩ := hrel
          have hbw : Later W3 wi := by rw [hwi0]; exact hlwr
          have hq := hbw.trans hbk
          have u7 : wr.cell? ⟨w.heap.size, 6, none⟩ = some (.slice qa ps.length qc) := (D1.later hq).cell 6
          have zu := (D1.later hq).lt
          by_cases hkl : k < ps.length
          · obtain ⟨bq, oq, eq, hx⟩ := ((hps.later hlw).later hq) (by omega)
            obtain ⟨v, hv, A4, c4, rfl, z1, z2, z3⟩ := hx k _ (List.getElem?_eq_getElem hkl)
            subst eq
            have zq := World.block_lt_of_cell? _ _ hv
            obtain ⟨y1, y2, y3, yw⟩ := hwi _ (List.getElem_mem hkl)
            have hp12 := a7 _ (List.getElem_mem hkl)
            have hk0 : (0 : Int) ≤ (k : Int) := by omega
            have hk1 : (k : Int) < (ps.length : Int) := by omega
            generalize ps[k] = p at *
            go_upto_region 11 with (first | (go_at_call 28; (with_reducible refine (HB.out p A4 c4 _ hp12 z1 (z3.later (by repeat' (with_reducible first | exact Later.refl _ | assumption | refine Later.drew ?_ | refine Later.drewN ?_ _ | refine Later.alloc ?_ _ | refine Later.put ?_ (by omega) _ | refine Later.trans ?_ (by assumption)))) y1).mono ?_); rintro e w5 ⟨rfl, hb5⟩))
            refine name_world (fun W6 hW6 => ?_)
            have hl56 : Later w5 W6 := by rw [hW6]; exact (by repeat' (with_reducible first | exact Later.refl _ | assumption | refine Later.drew ?_ | refine Later.drewN ?_ _ | refine Later.alloc ?_ _ | refine Later.put ?_ (by omega) _ | refine Later.trans ?_ (by assumption)))
            have hl6 : Later wr W6 := by
              have : Later wr w5 := (by repeat' (with_reducible first | exact Later.refl _ | assumption | refine Later.drew ?_ | refine Later.drewN ?_ _ | refine Later.alloc ?_ _ | refine Later.put ?_ (by omega) _ | refine Later.trans ?_ (by assumption)))
              exact this.trans hl56
            have D8 : Blk W6 w5.heap.size 64 #[.int .i64 (loOf p).x, .int .i64 (loOf p).y, .int .i64 ((hiOf p).x - (loOf p).x), .int .i64 ((hiOf p).y - (loOf p).y)] := by rw [hW6]; exact (by repeat' (with_reducible first | assumption | (refine Blk.newAt ?_; simp; done) | refine Blk.alloc ?_ _ | refine Blk.drew ?_ | refine Blk.drewN ?_ _ | refine Blk.later ?_ (by assumption)))
            clear hW6
            obtain ⟨bp, op, eP, e1, e2, hyk⟩ := (Plys.later hP (hl3.trans (hq.trans hl6))).at_ hlt
            subst eP
            have hq6 : Later W3 W6 := hq.trans hl6
            have hB := hpb _ (List.getElem_mem hlt)
            generalize ys[i] = y at *
            obtain ⟨lot, pa, pc', parts⟩ := y
            simp only [] at e1 e2 hyk yw hB
            have hn1 : parts.length ≤ pc' := hyk.1
            have hn2 : pc' ≤ 9223372036854775807 := by have := hyk.2.1; unfold maxLen at this; omega
            have hQ : Qds W6 pa parts := hyk.2.2.1
            have hxx := lo_hi_x p
            generalize (loOf p).x = lx at *
            generalize (hiOf p).x = hx at *
            generalize (loOf p).y = ly at *
            generalize (hiOf p).y = hy at *
            have vW : IntKind.i64.wrap (hx - lx) = hx - lx := IntWalk.i64_in _ (by omega)
            clear hyk z1 z2 z3 hv u7 zu zq
            have e2z := World.block_lt_of_cell? _ _ e2
            have Hyw := Lib.hid yw
            clear yw
            go_upto_region 13 with fail
            go_loopw [10, 11] (fun bv jv wq => ∃ j : Nat, ∃ b : Bool, j ≤ parts.length ∧ jv = .int .i64 j ∧ bv = .bool b ∧ b = ((parts.take j).any fun q => decide (q.d ≤ lx) && decide (hx ≤ endQ q)) ∧ Later W6 wq) (fun _ jv _ => parts.length - (intOf jv).toNat)
            case atStart => exact ⟨0, false, by omega, rfl, rfl, by simp, Later.refl _⟩
            case round =>
              obtain ⟨j, b, hj, rfl, rfl, hbe, hbj⟩ := hrel
              have Hbe := Lib.hid hbe
              clear hbe
              have l6 : wr.cell? ⟨w2.heap.size, 6, none⟩ = some (.slice (some ⟨bp, op, none⟩) ys.length pc) := (D3.later (hq6.trans hbj)).cell 6
              have zl := (D3.later (hq6.trans hbj)).lt
              have e2' := hbj.cell e2
              have e2z' := World.block_lt_of_cell? _ _ e2'
              have DB := D8.later hbj
              have r0 : wr.cell? ⟨w5.heap.size, 0, none⟩ = some (.int .i64 lx) := DB.cell 0
              have r2 : wr.cell? ⟨w5.heap.size, 2, none⟩ = some (.int .i64 (hx - lx)) := DB.cell 2
              have zr := DB.lt
              by_cases hjl : j < parts.length
              · obtain ⟨bb, ob, rfl, hx4⟩ := (hQ.later hbj) (by omega)
                obtain ⟨x0, x1, x2, x3⟩ := hx4.get hjl
                have zb := World.block_lt_of_cell? _ _ x0
                obtain ⟨b1, b2, b3, b4, b5, b6⟩ := hB _ (List.getElem_mem hjl)
                have Htk := Lib.hid (show parts.take (j + 1) = parts.take j ++ [parts[j]] from List.take_succ_eq_append_getElem hjl)
                have hj0 : (0 : Int) ≤ (j : Int) := by omega
                have hj1 : (j : Int) < (parts.length : Int) := by omega
                generalize hpq : parts[j] = q at *
                obtain ⟨qa, qb, qc, qd⟩ := q
                simp only [] at x0 x1 x2 x3 b1 b2 b3 b4 b5 b6
                have Hstp := Lib.hid (show ((parts.take (j + 1)).any fun q => decide (q.d ≤ lx) && decide (hx ≤ endQ q)) = (b || (decide (qd ≤ lx) && decide (hx ≤ qd + qc - qb))) by
                  rw [Htk.out, List.any_append, ← Hbe.out, List.any_cons, List.any_nil, Bool.or_false]
                  rfl)
                clear hpq
                cases b
                · by_cases h1 : qd ≤ lx
                  · by_cases h2 : hx ≤ qd + qc - qb
                    · have d2 : decide (lx + (hx - lx) ≤ qd + qc - qb) = true := by simp; omega
                      have Hv := Lib.hid (Hstp.out.trans (by rw [decide_eq_true h1, decide_eq_true h2]))
                      go_wp2
                      go_roundw
                      case rel => exact ⟨j + 1, true, by omega, by go_num, by rfl, Hv.out.symm, hbj.trans (by repeat' (with_reducible first | exact Later.refl _ | assumption | refine Later.drew ?_ | refine Later.drewN ?_ _ | refine Later.alloc ?_ _ | refine Later.put ?_ (by omega) _ | refine Later.trans ?_ (by assumption)))⟩
                      case measure => simp [intOf]; omega
                    · have d2 : decide (lx + (hx - lx) ≤ qd + qc - qb) = false := by simp; omega
                      have Hv := Lib.hid (Hstp.out.trans (by rw [decide_eq_true h1, decide_eq_false h2]))
                      go_wp2
                      go_roundw
                      case rel => exact ⟨j + 1, false, by omega, by go_num, by rfl, Hv.out.symm, hbj.trans (by repeat' (with_reducible first | exact Later.refl _ | assumption | refine Later.drew ?_ | refine Later.drewN ?_ _ | refine Later.alloc ?_ _ | refine Later.put ?_ (by omega) _ | refine Later.trans ?_ (by assumption)))⟩
                      case measure => simp [intOf]; omega
                  · have d1 : decide (qd ≤ lx) = false := by simp; omega
                    have Hv := Lib.hid (Hstp.out.trans (by rw [decide_eq_false h1]))
                    go_wp2
                    go_roundw
                    case rel => exact ⟨j + 1, false, by omega, by go_num, by rfl, Hv.out.symm, hbj.trans (by repeat' (with_reducible first | exact Later.refl _ | assumption | refine Later.drew ?_ | refine Later.drewN ?_ _ | refine Later.alloc ?_ _ | refine Later.put ?_ (by omega) _ | refine Later.trans ?_ (by assumption)))⟩
                    case measure => simp [intOf]; omega
                · go_wp2
                  go_roundw
                  case rel => exact ⟨j + 1, true, by omega, by go_num, by rfl, by rw [Hstp.out]; rfl, hbj.trans (by repeat' (with_reducible first | exact Later.refl _ | assumption | refine Later.drew ?_ | refine Later.drewN ?_ _ | refine Later.alloc ?_ _ | refine Later.put ?_ (by omega) _ | refine Later.trans ?_ (by assumption)))⟩
                  case measure => simp [intOf]; omega
              · have hbt : b = true := by
                  rw [Hbe.out, List.take_of_length_le (by omega), List.any_eq_true]
                  obtain ⟨q, hq, m1, m2⟩ := Hyw.out
                  exact ⟨q, hq, by simp [m1, m2]⟩
                subst hbt
                go_wp2
                go_roundw
                case rel => exact ⟨k + 1, by omega, by go_num, (hbk.trans hl6).trans (hbj.trans (by repeat' (with_reducible first | exact Later.refl _ | assumption | refine Later.drew ?_ | refine Later.drewN ?_ _ | refine Later.alloc ?_ _ | refine Later.put ?_ (by omega) _ | refine Later.trans ?_ (by assumption))))⟩
                case measure => simp [intOf]; omega
          · go_wp2
            go_roundw
            case rel => exact ⟨i + 1, by omega, by go_num, hq⟩
            case measure => simp [intOf]; omega
      · go_wp2_with (first | (go_at_call 16; (with_reducible refine (HX.out _).mono ?_); rintro e w10 ⟨rfl, hb10⟩))
        go_ret
        exact ⟨rfl, hlw.trans (hb.trans hb10)⟩
  · have HL2 := Lib.hid (fun W (hW : Later w W) => law38_laid_no c W (hc.later hW) hok)
    unfold C8.agg at HL2 ⊢
    clear hok
    obtain ⟨len, wd, rx, ry, s1, c1, sz, s2, c2, pl, qa, qc, ps, ra, rc, rs, la, lc, lots, aa, ac, plies⟩ := c
    simp only [] at HL2 ⊢
    go_enter Try.func6, Try.ntmps6
    go_wp2_with (first | (go_at_call 27; (with_reducible refine (HL2.out _ (by repeat' (with_reducible first | exact Later.refl _ | assumption | refine Later.drew ?_ | refine Later.drewN ?_ _ | refine Later.alloc ?_ _ | refine Later.put ?_ (by omega) _ | refine Later.trans ?_ (by assumption)))).mono ?_); rintro e w2 ⟨rfl, hb2⟩) | (go_at_call 16; (with_reducible refine (HX.out _).mono ?_); rintro e w10 ⟨rfl, hb10⟩))
    go_ret
    exact ⟨rfl, (by repeat' (with_reducible first | exact Later.refl _ | assumption | refine Later.drew ?_ | refine Later.drewN ?_ _ | refine Later.alloc ?_ _ | refine Later.put ?_ (by omega) _ | refine Later.trans ?_ (by assumption)))⟩

end Go.Proofs.Ytinjdlnikhcbfaa
