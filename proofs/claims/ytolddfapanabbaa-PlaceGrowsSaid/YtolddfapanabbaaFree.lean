/-
  The walk of triangle.Split's closure 'free'.
-/
import Derived.Test.YtolddfapanabbaaHolds
import Derived.Test.YtolddfapanabbaaCorner
namespace Go.Proofs.Ytolddfapanabbaa
open Go.RowKit
set_option linter.unusedSimpArgs false
set_option linter.unusedVariables false

/-- No point of the list but a, b, c lies in the closed triangle. -/
def freeGo (a b c : Pt) : List Pt → Bool
  | [] => true
  | q :: l => if (q ≠ a ∧ q ≠ b ∧ q ≠ c) ∧ 0 ≤ holdsI a b c q then false else freeGo a b c l
def freeB (ps : List Pt) (i : Nat) : Bool :=
  decide (0 < bendI ps i) && freeGo (gp ps ((i + ps.length - 1) % ps.length)) (gp ps i) (gp ps ((i + 1) % ps.length)) ps
theorem free_hit {a b c q : Pt} {l : List Pt} (h1 : q ≠ a) (h2 : q ≠ b) (h3 : q ≠ c) (h : 0 ≤ holdsI a b c q) : freeGo a b c (q :: l) = false := by
  rw [freeGo, if_pos ⟨⟨h1, h2, h3⟩, h⟩]
theorem free_miss {a b c q : Pt} {l : List Pt} (h : ¬ ((q ≠ a ∧ q ≠ b ∧ q ≠ c) ∧ 0 ≤ holdsI a b c q)) : freeGo a b c (q :: l) = freeGo a b c l := by
  rw [freeGo, if_neg h]
theorem pt_eq {p q : Pt} : p = q ↔ (p.x = q.x ∧ p.y = q.y) := by
  cases p; cases q; simp
/-- All points are within the limits. -/
def AllIn (ps : List Pt) : Prop := ∀ j, outP (gp ps j) = false

theorem pts_three {w : World} {g : Nat} {a b c : Pt} (h : Blk w g 78 #[.int .i64 a.x, .int .i64 a.y, .int .i64 b.x, .int .i64 b.y, .int .i64 c.x, .int .i64 c.y]) : PtsAt w g 0 [a, b, c] := by
  intro i p hp
  rcases i with _ | _ | _ | i
  · cases hp; exact ⟨h.cell 0, h.cell 1⟩
  · cases hp; exact ⟨h.cell 2, h.cell 3⟩
  · cases hp; exact ⟨h.cell 4, h.cell 5⟩
  · simp at hp

set_option maxHeartbeats 4000000 in
theorem split_free (C L i : Nat) (ps : List Pt) (w : World) (hn : ps.length ≤ 1099511627776) (hi : i < ps.length) (hv : VarPts w L ps) (hC : VarCorner w C L) (hin : AllIn ps) :
    Calls Try.prog 82 #[.int .i64 i, .pointer (some ⟨C, 0, none⟩), .pointer (some ⟨L, 0, none⟩)] w (Ret (.bool (freeB ps i)) w) := by
  have hv0 := hv
  obtain ⟨g, cp, hL, hcap, hp⟩ := hv
  unfold VarCorner at hC
  have i0 := hin ((i + ps.length - 1) % ps.length)
  have i1 := hin i
  have i2 := hin ((i + 1) % ps.length)
  have hbd : bendI ps i = crossP (gp ps ((i + ps.length - 1) % ps.length)) (gp ps i) (gp ps ((i + 1) % ps.length)) := rfl
  have hfr : freeB ps i = (decide (0 < bendI ps i) && freeGo (gp ps ((i + ps.length - 1) % ps.length)) (gp ps i) (gp ps ((i + 1) % ps.length)) ps) := rfl
  have hcr := split_corner L i ps w hn hi hv0
  generalize gp ps ((i + ps.length - 1) % ps.length) = a at *
  generalize gp ps i = b at *
  generalize gp ps ((i + 1) % ps.length) = c at *
  rw [hbd] at hfr
  clear hbd
  have HF := Lib.hid hfr
  have HC := Lib.hid hcr
  clear hfr hcr
  have sa := out_sm i0
  have sb := out_sm i1
  have sc := out_sm i2
  by_cases ht : 0 < crossP a b c
  · have HF2 : Hid (freeB ps i = freeGo a b c ps) := Lib.hid (by rw [HF.out]; simp [ht])
    have Ht := Lib.hid ht
    unfold crossP at ht
    go_enter Try.func82, Try.ntmps82
    go_wp2_with (first | (go_at_call 79; refine HC.out.mono ?_; rintro e w1 ⟨rfl, hb1⟩) | (go_at_call 81; refine (triangle_cross _ _ _ _ _ _ _ sa.1 sa.2 sb.1 sb.2 sc.1 sc.2).mono ?_; rintro e w2 ⟨rfl, hb2⟩; have hL2 : Later w w2 := (by repeat' (first | exact Later.refl _ | assumption | refine Later.drew ?_ | refine Later.drewN ?_ _ | refine Later.alloc ?_ _ | refine Later.put ?_ (by omega) _ | refine Later.trans ?_ (by assumption))); have hcl := hL2.cell hL; have xax : w2.cell? ⟨w1.heap.size, 0, none⟩ = some (.int .i64 (a).x) := hb2.cell (by first | assumption | simp [go_sem]); have xay : w2.cell? ⟨w1.heap.size, 1, none⟩ = some (.int .i64 (a).y) := hb2.cell (by first | assumption | simp [go_sem]); have xbx : w2.cell? ⟨w1.heap.size + 1, 0, none⟩ = some (.int .i64 (b).x) := hb2.cell (by first | assumption | simp [go_sem]); have xby : w2.cell? ⟨w1.heap.size + 1, 1, none⟩ = some (.int .i64 (b).y) := hb2.cell (by first | assumption | simp [go_sem]); have xcx : w2.cell? ⟨w1.heap.size + 1 + 1, 0, none⟩ = some (.int .i64 (c).x) := hb2.cell (by first | assumption | simp [go_sem]); have xcy : w2.cell? ⟨w1.heap.size + 1 + 1, 1, none⟩ = some (.int .i64 (c).y) := hb2.cell (by first | assumption | simp [go_sem]); clear hb2))
    go_loopw [4, 24] (fun r ii wr => ∃ k : Nat, k ≤ ps.length ∧ ii = .int .i64 k ∧ freeGo a b c ps = freeGo a b c (ps.drop k) ∧ Later w2 wr) (fun _ ii _ => ps.length - (intOf ii).toNat)
    case atStart => exact ⟨0, by omega, rfl, rfl, Later.refl _⟩
    case round =>
      obtain ⟨k, hk, rfl, he, hb⟩ := hrel
      have He := Lib.hid he
      clear he
      by_cases hlt : k < ps.length
      · obtain ⟨e1, e2⟩ := (hp.later (hL2.trans hb)).get hlt
        simp only [Nat.zero_add] at e1 e2
        have hgz : g < wr.heap.size := World.block_lt_of_cell? _ _ e1
        have Hd := Lib.hid (drop_cons ps k hlt)
        have hq : outP (ps[k]) = false := by rw [← gp_eq hlt]; exact hin k
        generalize ps[k] = q at *
        have n1 := neq_spot q.x q.y a.x a.y
        have n2 := neq_spot q.x q.y b.x b.y
        have n3 := neq_spot q.x q.y c.x c.y
        have ya1 := hb.cell xax
        have ya2 := hb.cell xay
        have yb1 := hb.cell xbx
        have yb2 := hb.cell xby
        have yc1 := hb.cell xcx
        have yc2 := hb.cell xcy
        have za : w1.heap.size < wr.heap.size := World.block_lt_of_cell? _ _ ya1
        have zb : w1.heap.size + 1 < wr.heap.size := World.block_lt_of_cell? _ _ yb1
        have zc : w1.heap.size + 1 + 1 < wr.heap.size := World.block_lt_of_cell? _ _ yc1
        go_wp2_with (first | (go_at_call 83; refine (triangle_Holds _ _ _ a b c q _ ?hpp i0 i1 i2 hq Ht.out).mono ?_; rotate_left; rintro e w3 ⟨rfl, hb3⟩))
        case hpp => exact pts_three (Blk.new1 _ _ _ _)
        · go_ret
          exact ⟨ret_bool (by rw [HF2.out, He.out, Hd.out]; exact (free_hit (by rw [Ne, pt_eq]; omega) (by rw [Ne, pt_eq]; omega) (by rw [Ne, pt_eq]; omega) (by omega)).symm), (by repeat' (first | exact Later.refl _ | assumption | refine Later.drew ?_ | refine Later.drewN ?_ _ | refine Later.alloc ?_ _ | refine Later.put ?_ (by omega) _ | refine Later.trans ?_ (by assumption)))⟩
        all_goals
          go_roundw
          case rel => exact ⟨k + 1, by omega, by go_num, by rw [He.out, Hd.out]; exact free_miss (by simp only [ne_eq, pt_eq]; omega), (by repeat' (first | exact Later.refl _ | assumption | refine Later.drew ?_ | refine Later.drewN ?_ _ | refine Later.alloc ?_ _ | refine Later.put ?_ (by omega) _ | refine Later.trans ?_ (by assumption)))⟩
          case measure => simp [intOf]; omega
      · go_wp2
        go_ret
        exact ⟨ret_bool (by rw [HF2.out, He.out, List.drop_eq_nil_of_le (by omega)]; rfl), (by repeat' (first | exact Later.refl _ | assumption | refine Later.drew ?_ | refine Later.drewN ?_ _ | refine Later.alloc ?_ _ | refine Later.put ?_ (by omega) _ | refine Later.trans ?_ (by assumption)))⟩
  · have HF2 : Hid (freeB ps i = false) := Lib.hid (by rw [HF.out]; simp [ht])
    unfold crossP at ht
    go_enter Try.func82, Try.ntmps82
    go_wp2_with (first | (go_at_call 79; refine HC.out.mono ?_; rintro e w1 ⟨rfl, hb1⟩) | (go_at_call 81; refine (triangle_cross _ _ _ _ _ _ _ sa.1 sa.2 sb.1 sb.2 sc.1 sc.2).mono ?_; rintro e w2 ⟨rfl, hb2⟩))
    go_ret
    exact ⟨ret_bool (by rw [HF2.out]), (by repeat' (first | exact Later.refl _ | assumption | refine Later.drew ?_ | refine Later.drewN ?_ _ | refine Later.alloc ?_ _ | refine Later.put ?_ (by omega) _ | refine Later.trans ?_ (by assumption)))⟩

end Go.Proofs.Ytolddfapanabbaa
