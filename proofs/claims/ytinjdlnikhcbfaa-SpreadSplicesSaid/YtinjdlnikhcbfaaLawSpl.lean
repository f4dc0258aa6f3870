/-
  SpreadSplices, walked.
-/
import Derived.Test.YtinjdlnikhcbfaaLaidB
namespace Go.Proofs.Ytinjdlnikhcbfaa
open Go.RowKit
set_option linter.unusedSimpArgs false
set_option linter.unusedVariables false

theorem Spliced.few {zs : List Pt} {len at_ : Int} {l : List Qd} (h : Spliced zs len at_ l) : (l.length : Int) ≤ len - at_ := by
  induction h with
  | last h1 h2 h3 => unfold endQ at h3; simp; omega
  | @more at_ at' p l h1 h2 h3 h4 h5 h6 ih => simp; omega
/-- Each joint overlaps by at least nothing, the first part begins at the beginning, the last one ends at the end. -/
def Joints (len : Int) (l : List Qd) : Prop := 0 < l.length ∧ (l.length : Int) ≤ 1048576 ∧ (∀ a, l[0]? = some a → a.d = 0) ∧ (∀ j a b, l[j]? = some a → l[j + 1]? = some b → b.d ≤ endQ a) ∧ ∀ a, l[l.length - 1]? = some a → endQ a = len
theorem laid_joints {len wd : Int} {polys : List (List Pt)} {rs : List Rl} {lots plies : List Int} {ys : List Pl} (h : LaidOk len wd polys rs lots plies ys) : ∀ y ∈ ys, Joints len y.2 := by
  intro y hy
  obtain ⟨g, _⟩ := h.good y hy
  obtain ⟨j1, j2, j3⟩ := g.joint
  have := g.few
  have := h.len1
  obtain ⟨q, r, e, _⟩ := g.ne
  refine ⟨by rw [e]; simp, by omega, j1, fun j a b ha hb => ?_, j3⟩
  have := (j2 j a b ha hb).1
  have := back_le (extentsR len polys).1 (endQ a)
  omega
/-- After j parts: what they use and their overlaps. -/
def SplInv (l : List Qd) (j : Nat) (u o : Int) : Prop := 0 ≤ o ∧ o ≤ 2097152 * j ∧ (j = 0 → u = 0 ∧ o = 0) ∧ (0 < j → ∀ p, l[j - 1]? = some p → u = endQ p + o)

set_option maxHeartbeats 8000000 in
set_option maxRecDepth 100000 in
theorem law38_SpreadSplices (hex : ∀ W, Calls Try.prog 16 #[] W (Ret (.bool true) W)) (c : C8) (w : World) (hc : C8Ok w c) :
    Calls Try.prog 7 #[c.agg] w (Ret (.bool true) w) := by
  have HX := Lib.hid hex
  by_cases hok : few8 c = true ∧ (spR c).2.2 = 0
  · obtain ⟨hfew, hz⟩ := hok
    have hjn := laid_joints (laid_ok hz).1
    have hpb0 := laid_part (laid_ok hz).1
    have HL2 := Lib.hid (fun W (hW : Later w W) => law38_laid_yes c W (hc.later hW) hfew hz)
    have hl1 := (laid_ok hz).1.len1
    unfold C8.agg LaidYes at HL2
    unfold C8.agg
    clear hfew hz
    obtain ⟨len, wd, rx, ry, s1, c1, sz, s2, c2, pl, qa, qc, ps, ra, rc, rs, la, lc, lots, aa, ac, plies⟩ := c
    simp only [] at HL2 hjn hpb0 hl1 ⊢
    go_enter Try.func7, Try.ntmps7
    go_upto_region 5 with (first | (go_at_call 27; (with_reducible refine (HL2.out _ (by repeat' (with_reducible first | exact Later.refl _ | assumption | refine Later.drew ?_ | refine Later.drewN ?_ _ | refine Later.alloc ?_ _ | refine Later.put ?_ (by omega) _ | refine Later.trans ?_ (by assumption)))).mono ?_); rintro e w2 ⟨S1, d1, S2, d2, P, pc, X, xc, ys, rfl, hys, h40, hpc, hpm, _, _, hP, _, hb2⟩))
    have hjn' : ∀ y ∈ ys, Joints len y.parts := fun y hy => hjn (Py.pl y) (by rw [← hys]; exact List.mem_map_of_mem hy)
    have hpb : ∀ y ∈ ys, ∀ q ∈ y.parts, QdB q := fun y hy q hq => (hpb0 (Py.pl y) (by rw [← hys]; exact List.mem_map_of_mem hy) q hq).1
    clear hjn hpb0 hys
    refine name_world (fun W3 hW3 => ?_)
    have hl3 : Later w2 W3 := by rw [hW3]; exact (by repeat' (with_reducible first | exact Later.refl _ | assumption | refine Later.drew ?_ | refine Later.drewN ?_ _ | refine Later.alloc ?_ _ | refine Later.put ?_ (by omega) _ | refine Later.trans ?_ (by assumption)))
    have hlw : Later w W3 := by
      have : Later w w2 := (by repeat' (with_reducible first | exact Later.refl _ | assumption | refine Later.drew ?_ | refine Later.drewN ?_ _ | refine Later.alloc ?_ _ | refine Later.put ?_ (by omega) _ | refine Later.trans ?_ (by assumption)))
      exact this.trans hl3
    have D3 : Blk W3 w2.heap.size 36 #[.int .i64 len, .int .i64 wd, .int .i64 rx, .int .i64 ry, .slice S1 sz.length d1, .slice S2 pl.length d2, .slice P ys.length pc] := by rw [hW3]; exact (by repeat' (with_reducible first | assumption | (refine Blk.newAt ?_; simp; done) | refine Blk.alloc ?_ _ | refine Blk.drew ?_ | refine Blk.drewN ?_ _ | refine Blk.later ?_ (by assumption)))
    have D1 : Blk W3 w.heap.size 31 #[.int .i64 len, .int .i64 wd, .int .i64 rx, .int .i64 ry, .slice s1 sz.length c1, .slice s2 pl.length c2, .slice qa ps.length qc, .slice ra rs.length rc, .slice la lots.length lc, .slice aa plies.length ac] := Blk.later (Blk.later (by repeat' (with_reducible first | assumption | (refine Blk.newAt ?_; simp; done) | refine Blk.alloc ?_ _ | refine Blk.drew ?_ | refine Blk.drewN ?_ _ | refine Blk.later ?_ (by assumption))) hb2) hl3
    clear hW3
    go_loopw [6] (fun iv wr => ∃ i : Nat, i ≤ ys.length ∧ iv = .int .i64 i ∧ Later W3 wr) (fun iv _ => ys.length - (intOf iv).toNat)
    case atStart => exact ⟨0, by omega, rfl, Later.refl _⟩
    case round =>
      obtain ⟨i, hi, rfl, hb⟩ := hrel
      have l6 : wr.cell? ⟨w2.heap.size, 6, none⟩ = some (.slice P ys.length pc) := (D3.later hb).cell 6
      have zl := (D3.later hb).lt
      by_cases hlt : i < ys.length
      · obtain ⟨bp, op, eP, e1, e2, hyk⟩ := (Plys.later hP (hl3.trans hb)).at_ hlt
        subst eP
        obtain ⟨jn1, jn2, jn3, jn4, jn5⟩ := hjn' _ (List.getElem_mem hlt)
        have hB := hpb _ (List.getElem_mem hlt)
        have hi0 : (0 : Int) ≤ (i : Int) := by omega
        have hi1 : (i : Int) < (ys.length : Int) := by omega
        generalize ys[i] = y at *
        obtain ⟨lot, pa, pc', parts⟩ := y
        simp only [] at e1 e2 hyk hB jn1 jn2 jn3 jn4 jn5
        have hn1 : parts.length ≤ pc' := hyk.1
        have hn2 : pc' ≤ 9223372036854775807 := by have := hyk.2.1; unfold maxLen at this; omega
        have hQ : Qds wr pa parts := hyk.2.2.1
        have e2z := World.block_lt_of_cell? _ _ e2
        have Hj3 := Lib.hid jn3
        have Hj4 := Lib.hid jn4
        have Hj5 := Lib.hid jn5
        have HB := Lib.hid hB
        clear hyk jn3 jn4 jn5 hB
        go_upto_region 10 with fail
        refine name_world (fun W6 hW6 => ?_)
        have hl6 : Later wr W6 := by rw [hW6]; exact (by repeat' (with_reducible first | exact Later.refl _ | assumption | refine Later.drew ?_ | refine Later.drewN ?_ _ | refine Later.alloc ?_ _ | refine Later.put ?_ (by omega) _ | refine Later.trans ?_ (by assumption)))
        have hQ6 := hQ.later hl6
        have hbw : Later W3 W6 := hb.trans hl6
        clear hW6 hQ
        go_loopw [7, 8, 10] (fun uv ov jv wq => ∃ (j : Nat) (u o : Int), j ≤ parts.length ∧ jv = .int .i64 j ∧ uv = .int .i64 u ∧ ov = .int .i64 o ∧ SplInv parts j u o ∧ Later W6 wq) (fun _ _ jv _ => parts.length - (intOf jv).toNat)
        case atStart => exact ⟨0, 0, 0, by omega, rfl, rfl, rfl, ⟨by omega, by omega, fun _ => ⟨rfl, rfl⟩, fun h => by omega⟩, Later.refl _⟩
        case round =>
          obtain ⟨j, u, o, hj, rfl, rfl, rfl, ⟨o1, o2, o3, o4⟩, hbj⟩ := hrel
          have O3 := Lib.hid o3
          have O4 := Lib.hid o4
          clear o3 o4
          by_cases hjl : j < parts.length
          · obtain ⟨bb, ob, rfl, hx4⟩ := (hQ6.later hbj) (by omega)
            obtain ⟨x0, x1, x2, x3⟩ := hx4.get hjl
            have zb := World.block_lt_of_cell? _ _ x1
            obtain ⟨b1, b2, b3, b4, b5, b6⟩ := HB.out _ (List.getElem_mem hjl)
            have hgj : parts[j]? = some parts[j] := List.getElem?_eq_getElem hjl
            have Hgj := Lib.hid hgj
            have hj0 : (0 : Int) ≤ (j : Int) := by omega
            have hj1 : (j : Int) < (parts.length : Int) := by omega
            rcases Nat.eq_zero_or_pos j with h0 | h0
            · obtain ⟨ru, ro⟩ := O3.out h0
              subst ru ro h0
              have hd0 := Hj3.out _ hgj
              clear hgj
              generalize parts[0] = q at *
              obtain ⟨qa, qb, qc, qd⟩ := q
              simp only [] at x0 x1 x2 x3 b1 b2 b3 b4 b5 b6 hd0
              have v1 : IntKind.i64.wrap (0 + qc) = qc := by rw [Int.zero_add]; exact IntWalk.i64_in _ (by omega)
              have v1' : IntKind.i64.wrap qc = qc := IntWalk.i64_in _ (by omega)
              have v2 : IntKind.i64.wrap (qc - qb) = qc - qb := IntWalk.i64_in _ (by omega)
              go_upto_region 12 with fail
              go_quiet (fail)
              go_wp2
              go_roundw
              case rel => exact ⟨1, qc - qb, 0, by omega, by rfl, by rfl, by rfl, ⟨by omega, by omega, fun h => by omega, fun _ p hp => by rw [Hgj.out] at hp; cases hp; show qc - qb = endQ ⟨qa, qb, qc, qd⟩ + 0; unfold endQ; simp only []; omega⟩, hbj.trans (by repeat' (with_reducible first | exact Later.refl _ | assumption | refine Later.drew ?_ | refine Later.drewN ?_ _ | refine Later.alloc ?_ _ | refine Later.put ?_ (by omega) _ | refine Later.trans ?_ (by assumption)))⟩
              case measure => simp [intOf]; omega
            · obtain ⟨i', rfl⟩ : ∃ i', j = i' + 1 := ⟨j - 1, by omega⟩
              have hpl : i' < parts.length := by omega
              obtain ⟨y0, y1, y2, y3⟩ := hx4.get hpl
              obtain ⟨p1, p2, p3, p4, p5, p6⟩ := HB.out _ (List.getElem_mem hpl)
              have hpj : parts[i']? = some parts[i'] := List.getElem?_eq_getElem hpl
              have hdq := Hj4.out i' _ _ hpj hgj
              have hu := O4.out (by omega) _ (by rw [Nat.add_sub_cancel]; exact hpj)
              clear hgj hpj
              generalize parts[i' + 1] = q at *
              generalize parts[i'] = p at *
              obtain ⟨qa, qb, qc, qd⟩ := q
              obtain ⟨pa_, pb, pc_, pd⟩ := p
              unfold endQ at hdq hu
              simp only [] at x0 x1 x2 x3 b1 b2 b3 b4 b5 b6 y0 y1 y2 y3 p1 p2 p3 p4 p5 p6 hdq hu
              subst hu
              have ei : ((i' + 1 : Nat) : Int) = (i' : Int) + 1 := by omega
              have v1 : IntKind.i64.wrap (pd + pc_ - pb + o + qc) = pd + pc_ - pb + o + qc := IntWalk.i64_in _ (by omega)
              have v2 : IntKind.i64.wrap (pd + pc_ - pb + o + qc - qb) = pd + pc_ - pb + o + qc - qb := IntWalk.i64_in _ (by omega)
              have v3 : IntKind.i64.wrap ((i' : Int) + 1 - 1) = (i' : Int) := by rw [Int.add_sub_cancel]; exact IntWalk.i64_in _ (by omega)
              have v3' : IntKind.i64.wrap (i' : Int) = (i' : Int) := IntWalk.i64_in _ (by omega)
              have v4 : IntKind.i64.wrap (pd + pc_) = pd + pc_ := IntWalk.i64_in _ (by omega)
              have v5 : IntKind.i64.wrap (pd + pc_ - pb) = pd + pc_ - pb := IntWalk.i64_in _ (by omega)
              have v6 : IntKind.i64.wrap (pd + pc_ - pb - qd) = pd + pc_ - pb - qd := IntWalk.i64_in _ (by omega)
              have hi0' : (0 : Int) ≤ (i' : Int) := by omega
              have hi1' : (i' : Int) < (parts.length : Int) := by omega
              have dn : decide (pd + pc_ - pb - qd < 0) = false := by simp; omega
              go_upto_region 12 with fail
              go_quiet (fail)
              go_upto_region 14 with fail
              go_quiet (fail)
              go_wp2
              go_roundw
              case rel => exact ⟨i' + 1 + 1, pd + pc_ - pb + o + qc - qb, o + (pd + pc_ - pb - qd), by omega, by go_num, by go_num, by go_num, ⟨by omega, by omega, fun h => by omega, fun _ p hp => by rw [Nat.add_sub_cancel, Hgj.out] at hp; cases hp; unfold endQ; simp only []; omega⟩, hbj.trans (by repeat' (with_reducible first | exact Later.refl _ | assumption | refine Later.drew ?_ | refine Later.drewN ?_ _ | refine Later.alloc ?_ _ | refine Later.put ?_ (by omega) _ | refine Later.trans ?_ (by assumption)))⟩
              case measure => simp [intOf]; omega
          · have hje : j = parts.length := by omega
            subst hje
            have hlast : parts[parts.length - 1]? = some parts[parts.length - 1] := List.getElem?_eq_getElem (by omega)
            have he := Hj5.out _ hlast
            have hu := O4.out jn1 _ hlast
            rw [he] at hu
            subst hu
            clear hlast he
            have k0 : wr.cell? ⟨w.heap.size, 0, none⟩ = some (.int .i64 len) := (D1.later (hbw.trans hbj)).cell 0
            have zk := (D1.later (hbw.trans hbj)).lt
            have dn : ((len + o) != (len + o)) = false := by simp
            go_wp2
            go_roundw
            case rel => exact ⟨i + 1, by omega, by go_num, hbw.trans (hbj.trans (by repeat' (with_reducible first | exact Later.refl _ | assumption | refine Later.drew ?_ | refine Later.drewN ?_ _ | refine Later.alloc ?_ _ | refine Later.put ?_ (by omega) _ | refine Later.trans ?_ (by assumption))))⟩
            case measure => simp [intOf]; omega
      · go_wp2_with (first | (go_at_call 16; (with_reducible refine (HX.out _).mono ?_); rintro e w10 ⟨rfl, hb10⟩))
        go_ret
        exact ⟨rfl, hlw.trans (hb.trans hb10)⟩
  · have HL2 := Lib.hid (fun W (hW : Later w W) => law38_laid_no c W (hc.later hW) hok)
    unfold C8.agg at HL2 ⊢
    clear hok
    obtain ⟨len, wd, rx, ry, s1, c1, sz, s2, c2, pl, qa, qc, ps, ra, rc, rs, la, lc, lots, aa, ac, plies⟩ := c
    simp only [] at HL2 ⊢
    go_enter Try.func7, Try.ntmps7
    go_wp2_with (first | (go_at_call 27; (with_reducible refine (HL2.out _ (by repeat' (with_reducible first | exact Later.refl _ | assumption | refine Later.drew ?_ | refine Later.drewN ?_ _ | refine Later.alloc ?_ _ | refine Later.put ?_ (by omega) _ | refine Later.trans ?_ (by assumption)))).mono ?_); rintro e w2 ⟨rfl, hb2⟩) | (go_at_call 16; (with_reducible refine (HX.out _).mono ?_); rintro e w10 ⟨rfl, hb10⟩))
    go_ret
    exact ⟨rfl, (by repeat' (with_reducible first | exact Later.refl _ | assumption | refine Later.drew ?_ | refine Later.drewN ?_ _ | refine Later.alloc ?_ _ | refine Later.put ?_ (by omega) _ | refine Later.trans ?_ (by assumption)))⟩

end Go.Proofs.Ytinjdlnikhcbfaa
