/-
  garmentlaw40.few and garmentlaw40.laid: a small lay and its account.
-/
import Derived.Test.YtpiniflhaokkaaaZAccD
import Derived.Test.YtpiniflhaokkaaaZLawOnc
namespace Go.Proofs.Ytpiniflhaokkaaa
open Go.RowKit
set_option linter.unusedSimpArgs false
set_option linter.unusedVariables false

def few40 (c : C8) (ys : List Py) : Bool := decide ((ys.length : Int) ≤ 6) && few38 c.sz.length c.pl.length c.lots.length c.ps c.rs ys
theorem build_lay9 (a b c d : Int) (s p : Value) (A : Option Addr) (n k : Nat) (w : World) : (Instr.build 39 #[(0, .agg #[.int .i64 a, .int .i64 b, .int .i64 c, .int .i64 d, s, p]), (1, .slice A n k)]).run Try.prog w = .ok (.agg #[.int .i64 a, .int .i64 b, .int .i64 c, .int .i64 d, s, p, .slice A n k]) w := run_build w 39 _ _ (by kernel_rfl)
section
attribute [local go_sem] build_lay9
set_option maxHeartbeats 2000000 in
theorem law40_few (c : C8) (A : Option Addr) (k : Nat) (ys : List Py) (w : World) (hc : C8Ok w c) (hy : Plys w A ys) : Calls Try.prog 16 #[c.agg, .slice A ys.length k] w (Ret (.bool (few40 c ys)) w) := by
  have HF := Lib.hid (fun W (hW : Later w W) => ref38_Few A c.ra c.qa c.s1 c.s2 c.la k c.rc c.qc c.c1 c.c2 c.lc c.sz.length c.pl.length c.lots.length c.len c.wd c.rx c.ry ys c.rs c.ps W (hy.later hW) (hc.rs.later hW) (hc.ps.later hW))
  unfold C8.agg few40
  generalize few38 c.sz.length c.pl.length c.lots.length c.ps c.rs ys = fb at *
  obtain ⟨len, wd, rx, ry, s1, c1, sz, s2, c2, pl, qa, qc, ps, ra, rc, rs, la, lc, lots, aa, ac, plies⟩ := c
  simp only [] at HF ⊢
  clear hc
  by_cases h6 : (ys.length : Int) ≤ 6
  · have d6 : decide ((ys.length : Int) ≤ 6) = true := by rw [decide_eq_true_iff]; exact h6
    rw [d6]
    go_enter Try.func16, Try.ntmps16
    go_wp2_with (first | (go_at_call 36; (with_reducible refine (HF.out _ (by repeat' (with_reducible first | exact Later.refl _ | assumption | refine Later.drew ?_ | refine Later.drewN ?_ _ | refine Later.alloc ?_ _ | refine Later.put ?_ (by omega) _ | refine Later.trans ?_ (by assumption)))).mono ?_); rintro e w1 ⟨rfl, hb1⟩))
    go_ret
    exact ⟨ret_bool (by simp), (by repeat' (with_reducible first | exact Later.refl _ | assumption | refine Later.drew ?_ | refine Later.drewN ?_ _ | refine Later.alloc ?_ _ | refine Later.put ?_ (by omega) _ | refine Later.trans ?_ (by assumption)))⟩
  · have d6 : decide ((ys.length : Int) ≤ 6) = false := by rw [decide_eq_false_iff_not]; exact h6
    rw [d6]
    go_enter Try.func16, Try.ntmps16
    go_wp2_with fail
    go_ret
    exact ⟨ret_bool (by simp), (by repeat' (with_reducible first | exact Later.refl _ | assumption | refine Later.drew ?_ | refine Later.drewN ?_ _ | refine Later.alloc ?_ _ | refine Later.put ?_ (by omega) _ | refine Later.trans ?_ (by assumption)))⟩
end

/-- A lay that is spread, of at most eight plies, with an account. -/
def Ok40 (c : C8) : Prop := few8 c = true ∧ (spR c).2.2 = 0 ∧ (spR c).1.length ≤ 8 ∧ (accR c.len c.wd c.ps c.rs c.lots ((spR c).1.map pyOf)).2 = 0
def LaidYes40 (c : C8) (w : World) (e : Ending) (w' : World) : Prop :=
  ∃ S1 c1 S2 c2 P pc ys, e = .returned (.tuple #[.agg #[.int .i64 c.len, .int .i64 c.wd, .int .i64 c.rx, .int .i64 c.ry, .slice S1 c.sz.length c1, .slice S2 c.pl.length c2, .slice P (List.length ys) pc], (balR c.rs c.ps ys).agg, .bool true]) ∧
    ys.map Py.pl = (spR c).1 ∧ ys.length ≤ 8 ∧ ys.length ≤ pc ∧ pc ≤ maxLen ∧ Plys w' P ys ∧ Later w w'
def LaidNo40 (w : World) (e : Ending) (w' : World) : Prop :=
  ∃ (l0 l1 l2 l3 : Int) (A1 : Option Addr) (n1 c1 : Nat) (A2 : Option Addr) (n2 c2 : Nat) (A3 : Option Addr) (n3 c3 : Nat) (b0 b1 b2 b3 b4 : Int), e = .returned (.tuple #[.agg #[.int .i64 l0, .int .i64 l1, .int .i64 l2, .int .i64 l3, .slice A1 n1 c1, .slice A2 n2 c2, .slice A3 n3 c3], .agg #[.int .i64 b0, .int .i64 b1, .int .i64 b2, .int .i64 b3, .int .i64 b4], .bool false]) ∧ Later w w'
def Laid40 (c : C8) (w : World) (e : Ending) (w' : World) : Prop := (Ok40 c ∧ LaidYes40 c w e w') ∨ (¬ Ok40 c ∧ LaidNo40 w e w')
theorem few8_40 (c : C8) : few8 c = (decide ((c.plies.length : Int) ≤ 6) && few40 c []) := by
  unfold few8 few40
  simp

def puts5 (W : World) (g : Nat) (a b c d e : Value) : World := (((((W.setCell ⟨g, 0, none⟩ a).setCell ⟨g, 1, none⟩ b).setCell ⟨g, 2, none⟩ c).setCell ⟨g, 3, none⟩ d).setCell ⟨g, 4, none⟩ e)
theorem puts5_block {W : World} {g b : Nat} {v0 v1 v2 v3 v4 : Value} (h : b ≠ g) : (puts5 W g v0 v1 v2 v3 v4).heap[b]? = W.heap[b]? := by
  unfold puts5
  rw [Below.heap_setCell _ ⟨g, 4, none⟩ _ b h, Below.heap_setCell _ ⟨g, 3, none⟩ _ b h, Below.heap_setCell _ ⟨g, 2, none⟩ _ b h, Below.heap_setCell _ ⟨g, 1, none⟩ _ b h, Below.heap_setCell _ ⟨g, 0, none⟩ _ b h]
theorem put5 {w W : World} {g : Nat} {a b c d e : Value} (h : Later w W) (hg : w.heap.size ≤ g) : Later w (puts5 W g a b c d e) := ((((h.put hg _).put hg _).put hg _).put hg _).put hg _
theorem put7' {w W : World} {g : Nat} {a b c d e f k : Value} (h : Later w W) (hg : w.heap.size ≤ g) : Later w (puts7 W g a b c d e f k) := put7 h hg

set_option maxHeartbeats 8000000 in
set_option maxRecDepth 100000 in
theorem law40_laid (c : C8) (w : World) (hc : C8Ok w c) : Calls Try.prog 21 #[c.agg] w (Laid40 c w) := by
  have HF := Lib.hid (fun W (hW : Later w W) => law40_few c none 0 [] W (hc.later hW) (fun h => absurd h (by simp)))
  have HS := Lib.hid (fun W (hW : Later w W) (hf : few8 c = true) => law38_spread c W (hc.later hW) hf)
  have HO := Lib.hid (fun (S1 S2 P : Option Addr) (d1 d2 pc : Nat) (ys : List Py) W (hW : Later w W) (hf : few8 c = true) (hz : (spR c).2.2 = 0) (hys : ys.map Py.pl = (spR c).1) (hP : Plys W P ys) => by
    obtain ⟨a1, a2, a3, a4, a5, a6, a7⟩ := few8_all hf
    have hn : ys.length ≤ 40 := by
      have := (laid_ok hz).1.num
      rw [← hys, List.length_map] at this
      exact this
    exact account_Of c.qa c.ra c.la S1 S2 P c.qc c.rc c.lc c.sz.length d1 c.pl.length d2 pc c.len c.wd c.rx c.ry c.ps c.rs c.lots ys W (hc.ps.later hW) (fun p hp => by have := a7 p hp; omega) (hc.rs.later hW) (by omega) (hc.lots.later hW) (by omega) hP (by omega) (fun y hy => by
      have h1 : Py.pl y ∈ (spR c).1 := by rw [← hys]; exact List.mem_map_of_mem hy
      have h2 := lotsGo_len (laid_ok hz).2.1 _ h1
      have h3 : (Py.pl y).2.length = y.parts.length := rfl
      omega) (by omega) hc.psc.1)
  have Hno := Lib.hid (show ∀ e W, ¬ Ok40 c → LaidNo40 w e W → Laid40 c w e W from fun e W h k => .inr ⟨h, k⟩)
  have Hyes := Lib.hid (show ∀ e W, Ok40 c → LaidYes40 c w e W → Laid40 c w e W from fun e W h k => .inl ⟨h, k⟩)
  have Hok := Lib.hid (show Ok40 c ↔ few8 c = true ∧ (spR c).2.2 = 0 ∧ (spR c).1.length ≤ 8 ∧ (accR c.len c.wd c.ps c.rs c.lots ((spR c).1.map pyOf)).2 = 0 from Iff.rfl)
  have hf8 := few8_40 c
  generalize Laid40 c w = QQ at *
  generalize Ok40 c = OK at *
  unfold C8.agg at HF ⊢
  unfold LaidYes40 at Hyes
  obtain ⟨f, hf⟩ : ∃ f, few40 c [] = f := ⟨_, rfl⟩
  rw [hf] at HF hf8
  obtain ⟨len, wd, rx, ry, s1, c1, sz, s2, c2, pl, qa, qc, ps, ra, rc, rs, la, lc, lots, aa, ac, plies⟩ := c
  simp only [List.length_nil] at HF HS HO Hyes Hok hf8 ⊢
  clear hf
  by_cases h6 : (plies.length : Int) ≤ 6
  · have d6 : decide ((6 : Int) < (plies.length : Int)) = false := by simp; omega
    have hfe : few8 ⟨len, wd, rx, ry, s1, c1, sz, s2, c2, pl, qa, qc, ps, ra, rc, rs, la, lc, lots, aa, ac, plies⟩ = f := by rw [hf8]; simp [h6]
    clear hf8
    have Hfe := Lib.hid hfe
    clear hfe
    cases f
    case false =>
      go_enter Try.func21, Try.ntmps21
      go_upto_region 1 with fail
      refine name_world (fun W1 hW1 => ?_)
      have hl1 : Later w W1 := by rw [hW1]; exact (by repeat' (with_reducible first | exact Later.refl _ | assumption | refine Later.drew ?_ | refine Later.drewN ?_ _ | refine Later.alloc ?_ _ | refine Later.put ?_ (by omega) _ | refine Later.trans ?_ (by assumption)))
      have D1 : Blk W1 w.heap.size 31 #[.int .i64 len, .int .i64 wd, .int .i64 rx, .int .i64 ry, .slice s1 sz.length c1, .slice s2 pl.length c2, .slice qa ps.length qc, .slice ra rs.length rc, .slice la lots.length lc, .slice aa plies.length ac] := by rw [hW1]; exact (by repeat' (with_reducible first | assumption | (refine Blk.newAt ?_; simp; done) | refine Blk.alloc ?_ _ | refine Blk.drew ?_ | refine Blk.drewN ?_ _ | refine Blk.later ?_ (by assumption)))
      have D2 : Blk W1 (w.heap.size + 1) 39 #[.int .i64 0, .int .i64 0, .int .i64 0, .int .i64 0, .slice none 0 0, .slice none 0 0, .slice none 0 0] := by rw [hW1]; exact (by repeat' (with_reducible first | assumption | (refine Blk.newAt ?_; simp; done) | refine Blk.alloc ?_ _ | refine Blk.drew ?_ | refine Blk.drewN ?_ _ | refine Blk.later ?_ (by assumption)))
      have D3 : Blk W1 (w.heap.size + 1 + 1) 58 #[.int .i64 0, .int .i64 0, .int .i64 0, .int .i64 0, .int .i64 0] := by rw [hW1]; exact (by repeat' (with_reducible first | assumption | (refine Blk.newAt ?_; simp; done) | refine Blk.alloc ?_ _ | refine Blk.drew ?_ | refine Blk.drewN ?_ _ | refine Blk.later ?_ (by assumption)))
      clear hW1
      have hg2 : w.heap.size ≤ w.heap.size + 1 := by omega
      have hg3 : w.heap.size ≤ w.heap.size + 1 + 1 := by omega
      have hg23 : w.heap.size + 1 ≠ w.heap.size + 1 + 1 := by omega
      have hg1 : w.heap.size ≠ w.heap.size + 1 := by omega
      have hg1b : w.heap.size ≠ w.heap.size + 1 + 1 := by omega
      generalize w.heap.size + 1 + 1 = g3 at *
      generalize w.heap.size + 1 = g2 at *
      have k0 : W1.cell? ⟨w.heap.size, 0, none⟩ = some (.int .i64 len) := D1.cell 0
      have k1 : W1.cell? ⟨w.heap.size, 1, none⟩ = some (.int .i64 wd) := D1.cell 1
      have k2 : W1.cell? ⟨w.heap.size, 2, none⟩ = some (.int .i64 rx) := D1.cell 2
      have k3 : W1.cell? ⟨w.heap.size, 3, none⟩ = some (.int .i64 ry) := D1.cell 3
      have k4 : W1.cell? ⟨w.heap.size, 4, none⟩ = some (.slice s1 sz.length c1) := D1.cell 4
      have k5 : W1.cell? ⟨w.heap.size, 5, none⟩ = some (.slice s2 pl.length c2) := D1.cell 5
      have k6 : W1.cell? ⟨w.heap.size, 6, none⟩ = some (.slice qa ps.length qc) := D1.cell 6
      have k7 : W1.cell? ⟨w.heap.size, 7, none⟩ = some (.slice ra rs.length rc) := D1.cell 7
      have k8 : W1.cell? ⟨w.heap.size, 8, none⟩ = some (.slice la lots.length lc) := D1.cell 8
      have k9 : W1.cell? ⟨w.heap.size, 9, none⟩ = some (.slice aa plies.length ac) := D1.cell 9
      have zk := D1.lt
      go_upto_region 2 with (first | (go_at_call 16; (with_reducible refine (HF.out _ hl1).mono ?_); rintro e w2 ⟨rfl, hb2⟩))
      have D2b := D2.later hb2
      have D3b := D3.later hb2
      have q0 : w2.cell? ⟨g2, 0, none⟩ = some (.int .i64 0) := D2b.cell 0
      have q1 : w2.cell? ⟨g2, 1, none⟩ = some (.int .i64 0) := D2b.cell 1
      have q2 : w2.cell? ⟨g2, 2, none⟩ = some (.int .i64 0) := D2b.cell 2
      have q3 : w2.cell? ⟨g2, 3, none⟩ = some (.int .i64 0) := D2b.cell 3
      have q4 : w2.cell? ⟨g2, 4, none⟩ = some (.slice none 0 0) := D2b.cell 4
      have q5 : w2.cell? ⟨g2, 5, none⟩ = some (.slice none 0 0) := D2b.cell 5
      have q6 : w2.cell? ⟨g2, 6, none⟩ = some (.slice none 0 0) := D2b.cell 6
      have r0 := D2b.frozen 0
      have r1 := D2b.frozen 1
      have r2 := D2b.frozen 2
      have r3 := D2b.frozen 3
      have r4 := D2b.frozen 4
      have r5 := D2b.frozen 5
      have r6 := D2b.frozen 6
      have z2 := D2b.lt
      have t0 : w2.cell? ⟨g3, 0, none⟩ = some (.int .i64 0) := D3b.cell 0
      have t1 : w2.cell? ⟨g3, 1, none⟩ = some (.int .i64 0) := D3b.cell 1
      have t2 : w2.cell? ⟨g3, 2, none⟩ = some (.int .i64 0) := D3b.cell 2
      have t3 : w2.cell? ⟨g3, 3, none⟩ = some (.int .i64 0) := D3b.cell 3
      have t4 : w2.cell? ⟨g3, 4, none⟩ = some (.int .i64 0) := D3b.cell 4
      have v0 := D3b.frozen 0
      have v1 := D3b.frozen 1
      have v2 := D3b.frozen 2
      have v3 := D3b.frozen 3
      have v4 := D3b.frozen 4
      have z3 := D3b.lt
      go_wp2
      refine bodyPost_ret (v := .tuple #[.agg #[.int .i64 0, .int .i64 0, .int .i64 0, .int .i64 0, .slice none 0 0, .slice none 0 0, .slice none 0 0], .agg #[.int .i64 0, .int .i64 0, .int .i64 0, .int .i64 0, .int .i64 0], .bool false]) (by simp [results, Try.results21, go_sem, q0, q1, q2, q3, q4, q5, q6, t0, t1, t2, t3, t4]) rfl (Hno.out _ _ (fun h => by have := (Hok.out.1 h).1; rw [Hfe.out] at this; cases this) ⟨_, _, _, _, _, _, _, _, _, _, _, _, _, _, _, _, _, _, rfl, (by repeat' (with_reducible first | exact Later.refl _ | assumption | refine Later.drew ?_ | refine Later.drewN ?_ _ | refine Later.alloc ?_ _ | refine Later.put ?_ (by omega) _ | refine Later.trans ?_ (by assumption)))⟩)
    case true =>
      have HS2 := Lib.hid (fun W hW => HS.out W hW Hfe.out)
      clear HS
      go_enter Try.func21, Try.ntmps21
      go_upto_region 1 with fail
      refine name_world (fun W1 hW1 => ?_)
      have hl1 : Later w W1 := by rw [hW1]; exact (by repeat' (with_reducible first | exact Later.refl _ | assumption | refine Later.drew ?_ | refine Later.drewN ?_ _ | refine Later.alloc ?_ _ | refine Later.put ?_ (by omega) _ | refine Later.trans ?_ (by assumption)))
      have D1 : Blk W1 w.heap.size 31 #[.int .i64 len, .int .i64 wd, .int .i64 rx, .int .i64 ry, .slice s1 sz.length c1, .slice s2 pl.length c2, .slice qa ps.length qc, .slice ra rs.length rc, .slice la lots.length lc, .slice aa plies.length ac] := by rw [hW1]; exact (by repeat' (with_reducible first | assumption | (refine Blk.newAt ?_; simp; done) | refine Blk.alloc ?_ _ | refine Blk.drew ?_ | refine Blk.drewN ?_ _ | refine Blk.later ?_ (by assumption)))
      have D2 : Blk W1 (w.heap.size + 1) 39 #[.int .i64 0, .int .i64 0, .int .i64 0, .int .i64 0, .slice none 0 0, .slice none 0 0, .slice none 0 0] := by rw [hW1]; exact (by repeat' (with_reducible first | assumption | (refine Blk.newAt ?_; simp; done) | refine Blk.alloc ?_ _ | refine Blk.drew ?_ | refine Blk.drewN ?_ _ | refine Blk.later ?_ (by assumption)))
      have D3 : Blk W1 (w.heap.size + 1 + 1) 58 #[.int .i64 0, .int .i64 0, .int .i64 0, .int .i64 0, .int .i64 0] := by rw [hW1]; exact (by repeat' (with_reducible first | assumption | (refine Blk.newAt ?_; simp; done) | refine Blk.alloc ?_ _ | refine Blk.drew ?_ | refine Blk.drewN ?_ _ | refine Blk.later ?_ (by assumption)))
      clear hW1
      have hg2 : w.heap.size ≤ w.heap.size + 1 := by omega
      have hg3 : w.heap.size ≤ w.heap.size + 1 + 1 := by omega
      have hg23 : w.heap.size + 1 ≠ w.heap.size + 1 + 1 := by omega
      have hg1 : w.heap.size ≠ w.heap.size + 1 := by omega
      have hg1b : w.heap.size ≠ w.heap.size + 1 + 1 := by omega
      generalize w.heap.size + 1 + 1 = g3 at *
      generalize w.heap.size + 1 = g2 at *
      have k0 : W1.cell? ⟨w.heap.size, 0, none⟩ = some (.int .i64 len) := D1.cell 0
      have k1 : W1.cell? ⟨w.heap.size, 1, none⟩ = some (.int .i64 wd) := D1.cell 1
      have k2 : W1.cell? ⟨w.heap.size, 2, none⟩ = some (.int .i64 rx) := D1.cell 2
      have k3 : W1.cell? ⟨w.heap.size, 3, none⟩ = some (.int .i64 ry) := D1.cell 3
      have k4 : W1.cell? ⟨w.heap.size, 4, none⟩ = some (.slice s1 sz.length c1) := D1.cell 4
      have k5 : W1.cell? ⟨w.heap.size, 5, none⟩ = some (.slice s2 pl.length c2) := D1.cell 5
      have k6 : W1.cell? ⟨w.heap.size, 6, none⟩ = some (.slice qa ps.length qc) := D1.cell 6
      have k7 : W1.cell? ⟨w.heap.size, 7, none⟩ = some (.slice ra rs.length rc) := D1.cell 7
      have k8 : W1.cell? ⟨w.heap.size, 8, none⟩ = some (.slice la lots.length lc) := D1.cell 8
      have k9 : W1.cell? ⟨w.heap.size, 9, none⟩ = some (.slice aa plies.length ac) := D1.cell 9
      have zk := D1.lt
      go_upto_region 3 with (first | (go_at_call 16; (with_reducible refine (HF.out _ hl1).mono ?_); rintro e w2 ⟨rfl, hb2⟩))
      have D1b := D1.later hb2
      have D2b := D2.later hb2
      have D3b := D3.later hb2
      have hl2 := hl1.trans hb2
      clear k0 k1 k2 k3 k4 k5 k6 k7 k8 k9 zk hl1 hb2 D1 D2 D3
      have k0 : w2.cell? ⟨w.heap.size, 0, none⟩ = some (.int .i64 len) := D1b.cell 0
      have k1 : w2.cell? ⟨w.heap.size, 1, none⟩ = some (.int .i64 wd) := D1b.cell 1
      have k2 : w2.cell? ⟨w.heap.size, 2, none⟩ = some (.int .i64 rx) := D1b.cell 2
      have k3 : w2.cell? ⟨w.heap.size, 3, none⟩ = some (.int .i64 ry) := D1b.cell 3
      have k4 : w2.cell? ⟨w.heap.size, 4, none⟩ = some (.slice s1 sz.length c1) := D1b.cell 4
      have k5 : w2.cell? ⟨w.heap.size, 5, none⟩ = some (.slice s2 pl.length c2) := D1b.cell 5
      have k6 : w2.cell? ⟨w.heap.size, 6, none⟩ = some (.slice qa ps.length qc) := D1b.cell 6
      have k7 : w2.cell? ⟨w.heap.size, 7, none⟩ = some (.slice ra rs.length rc) := D1b.cell 7
      have k8 : w2.cell? ⟨w.heap.size, 8, none⟩ = some (.slice la lots.length lc) := D1b.cell 8
      have k9 : w2.cell? ⟨w.heap.size, 9, none⟩ = some (.slice aa plies.length ac) := D1b.cell 9
      have zk := D1b.lt
      go_upto_region 4 with (first | (go_at_call 14; (with_reducible refine (HS2.out _ hl2).mono ?_); rintro e w3 (⟨hz, S1, d1, S2, d2, P, pc, X, xc, ys, rfl, hys, t1', t2', t3', t4', t5', t6', t7', t8', hcl, hb3⟩ | ⟨hz, rfl, hb3⟩)))
      · refine name_world (fun W4 hW4 => ?_)
        have hl34 : Later w3 W4 := by rw [hW4]; exact (by repeat' (with_reducible first | exact Later.refl _ | assumption | refine Later.drew ?_ | refine Later.drewN ?_ _ | refine Later.alloc ?_ _ | refine Later.put ?_ (by omega) _ | refine Later.trans ?_ (by assumption)))
        have D5 : Blk W4 w3.heap.size 39 #[.int .i64 len, .int .i64 wd, .int .i64 rx, .int .i64 ry, .slice S1 sz.length d1, .slice S2 pl.length d2, .slice P ys.length pc] := by rw [hW4]; exact (by repeat' (with_reducible first | assumption | (refine Blk.newAt ?_; simp; done) | refine Blk.alloc ?_ _ | refine Blk.drew ?_ | refine Blk.drewN ?_ _ | refine Blk.later ?_ (by assumption)))
        clear hW4
        have hl24 : Later w2 W4 := hb3.trans hl34
        have hl4 : Later w W4 := hl2.trans hl24
        have hg2z := D2b.lt
        have hg3z := D3b.lt
        have Hcl := Lib.hid (fun (W' : World) (hW : Later W4 W') => (hcl W' (fun b b1 b2 => (hW.block b (by have := hl34.size; omega)).trans (hl34.block b b2))).2.2.1)
        have Hfin := Lib.hid (fun (W' : World) (hW : ∀ b, w2.heap.size ≤ b → b < w3.heap.size → W'.heap[b]? = W4.heap[b]?) => (hcl W' (fun b b1 b2 => (hW b b1 b2).trans (hl34.block b b2))).2.2.1)
        have D1c := D1b.later hl24
        have D2c := D2b.later hl24
        have D3c := D3b.later hl24
        have hg5 : w2.heap.size ≤ w3.heap.size := hb3.size
        have hg5b : w3.heap.size ≤ W4.heap.size := hl34.size
        clear hcl k0 k1 k2 k3 k4 k5 k6 k7 k8 k9 zk D1b D2b D3b hb3
        generalize w3.heap.size = g5 at *
        have l0 : W4.cell? ⟨g5, 0, none⟩ = some (.int .i64 len) := D5.cell 0
        have l1 : W4.cell? ⟨g5, 1, none⟩ = some (.int .i64 wd) := D5.cell 1
        have l2 : W4.cell? ⟨g5, 2, none⟩ = some (.int .i64 rx) := D5.cell 2
        have l3 : W4.cell? ⟨g5, 3, none⟩ = some (.int .i64 ry) := D5.cell 3
        have l4 : W4.cell? ⟨g5, 4, none⟩ = some (.slice S1 sz.length d1) := D5.cell 4
        have l5 : W4.cell? ⟨g5, 5, none⟩ = some (.slice S2 pl.length d2) := D5.cell 5
        have l6 : W4.cell? ⟨g5, 6, none⟩ = some (.slice P ys.length pc) := D5.cell 6
        have zl := D5.lt
        have Hyn := Lib.hid (show ys.length = (spR ⟨len, wd, rx, ry, s1, c1, sz, s2, c2, pl, qa, qc, ps, ra, rc, rs, la, lc, lots, aa, ac, plies⟩).1.length by rw [← hys, List.length_map])
        by_cases h8 : ys.length ≤ 8
        · have d8 : decide ((8 : Int) < (ys.length : Int)) = false := by simp; omega
          have HOO := Lib.hid (fun W (hW : Later W4 W) => HO.out S1 S2 P d1 d2 pc ys W (hl4.trans hW) Hfe.out hz hys (Hcl.out W hW))
          have hacc : accR len wd ps rs lots ((spR ⟨len, wd, rx, ry, s1, c1, sz, s2, c2, pl, qa, qc, ps, ra, rc, rs, la, lc, lots, aa, ac, plies⟩).1.map pyOf) = accR len wd ps rs lots ys := by rw [← hys]; exact acc_py
          have Hbal := Lib.hid (acc_zero (len := len) (wd := wd) (polys := ps) (rs := rs) (lots := lots) (ys := ys))
          have Hacc := Lib.hid hacc
          clear hacc
          generalize accR len wd ps rs lots ys = R at *
          obtain ⟨⟨bt, bp, bd, bw, bs⟩, er⟩ := R
          unfold Bal.agg at HOO
          simp only [] at HOO Hacc Hbal
          have k0 : W4.cell? ⟨w.heap.size, 0, none⟩ = some (.int .i64 len) := D1c.cell 0
          have k1 : W4.cell? ⟨w.heap.size, 1, none⟩ = some (.int .i64 wd) := D1c.cell 1
          have k2 : W4.cell? ⟨w.heap.size, 2, none⟩ = some (.int .i64 rx) := D1c.cell 2
          have k3 : W4.cell? ⟨w.heap.size, 3, none⟩ = some (.int .i64 ry) := D1c.cell 3
          have k4 : W4.cell? ⟨w.heap.size, 4, none⟩ = some (.slice s1 sz.length c1) := D1c.cell 4
          have k5 : W4.cell? ⟨w.heap.size, 5, none⟩ = some (.slice s2 pl.length c2) := D1c.cell 5
          have k6 : W4.cell? ⟨w.heap.size, 6, none⟩ = some (.slice qa ps.length qc) := D1c.cell 6
          have k7 : W4.cell? ⟨w.heap.size, 7, none⟩ = some (.slice ra rs.length rc) := D1c.cell 7
          have k8 : W4.cell? ⟨w.heap.size, 8, none⟩ = some (.slice la lots.length lc) := D1c.cell 8
          have k9 : W4.cell? ⟨w.heap.size, 9, none⟩ = some (.slice aa plies.length ac) := D1c.cell 9
          have zk := D1c.lt
          go_upto_region 7 with (first | (go_at_call 20; (with_reducible refine (HOO.out _ (by repeat' (with_reducible first | exact Later.refl _ | assumption | refine Later.drew ?_ | refine Later.drewN ?_ _ | refine Later.alloc ?_ _ | refine Later.put ?_ (by omega) _ | refine Later.trans ?_ (by assumption)))).mono ?_); rintro e w6 ⟨rfl, hb6⟩))
          refine name_world (fun W7 hW7 => ?_)
          have hl67 : Later w6 W7 := by rw [hW7]; exact (by repeat' (with_reducible first | exact Later.refl _ | assumption | refine Later.drew ?_ | refine Later.drewN ?_ _ | refine Later.alloc ?_ _ | refine Later.put ?_ (by omega) _ | refine Later.trans ?_ (by assumption)))
          have D8 : Blk W7 w6.heap.size 58 #[.int .i64 bt, .int .i64 bp, .int .i64 bd, .int .i64 bw, .int .i64 bs] := by rw [hW7]; exact (by repeat' (with_reducible first | assumption | (refine Blk.newAt ?_; simp; done) | refine Blk.alloc ?_ _ | refine Blk.drew ?_ | refine Blk.drewN ?_ _ | refine Blk.later ?_ (by assumption)))
          have hl47 : Later W4 W7 := by
            have : Later W4 w6 := (by repeat' (with_reducible first | exact Later.refl _ | assumption | refine Later.drew ?_ | refine Later.drewN ?_ _ | refine Later.alloc ?_ _ | refine Later.put ?_ (by omega) _ | refine Later.trans ?_ (by assumption)))
            exact this.trans hl67
          have hg8 : w2.heap.size ≤ w6.heap.size := by
            have h1 : Later W4 w6 := (by repeat' (with_reducible first | exact Later.refl _ | assumption | refine Later.drew ?_ | refine Later.drewN ?_ _ | refine Later.alloc ?_ _ | refine Later.put ?_ (by omega) _ | refine Later.trans ?_ (by assumption)))
            have := h1.size
            have := hl24.size
            omega
          clear hW7 hb6 hl67 k0 k1 k2 k3 k4 k5 k6 k7 k8 k9 zk l0 l1 l2 l3 l4 l5 l6 zl
          generalize w6.heap.size = g8 at *
          have D5' := D5.later hl47
          clear D5
          have D5 := D5'
          have D2d := D2c.later hl47
          have D3d := D3c.later hl47
          have l0 : W7.cell? ⟨g5, 0, none⟩ = some (.int .i64 len) := D5.cell 0
          have l1 : W7.cell? ⟨g5, 1, none⟩ = some (.int .i64 wd) := D5.cell 1
          have l2 : W7.cell? ⟨g5, 2, none⟩ = some (.int .i64 rx) := D5.cell 2
          have l3 : W7.cell? ⟨g5, 3, none⟩ = some (.int .i64 ry) := D5.cell 3
          have l4 : W7.cell? ⟨g5, 4, none⟩ = some (.slice S1 sz.length d1) := D5.cell 4
          have l5 : W7.cell? ⟨g5, 5, none⟩ = some (.slice S2 pl.length d2) := D5.cell 5
          have l6 : W7.cell? ⟨g5, 6, none⟩ = some (.slice P ys.length pc) := D5.cell 6
          have zl := D5.lt
          have u0 : W7.cell? ⟨g8, 0, none⟩ = some (.int .i64 bt) := D8.cell 0
          have u1 : W7.cell? ⟨g8, 1, none⟩ = some (.int .i64 bp) := D8.cell 1
          have u2 : W7.cell? ⟨g8, 2, none⟩ = some (.int .i64 bd) := D8.cell 2
          have u3 : W7.cell? ⟨g8, 3, none⟩ = some (.int .i64 bw) := D8.cell 3
          have u4 : W7.cell? ⟨g8, 4, none⟩ = some (.int .i64 bs) := D8.cell 4
          have zu := D8.lt
          have n25 : g2 ≠ g5 := by omega
          have n28 : g2 ≠ g8 := by omega
          have n35 : g3 ≠ g5 := by omega
          have n38 : g3 ≠ g8 := by omega
          have q0 : W7.cell? ⟨g2, 0, none⟩ = some (.int .i64 0) := D2d.cell 0
          have q1 : W7.cell? ⟨g2, 1, none⟩ = some (.int .i64 0) := D2d.cell 1
          have q2 : W7.cell? ⟨g2, 2, none⟩ = some (.int .i64 0) := D2d.cell 2
          have q3 : W7.cell? ⟨g2, 3, none⟩ = some (.int .i64 0) := D2d.cell 3
          have q4 : W7.cell? ⟨g2, 4, none⟩ = some (.slice none 0 0) := D2d.cell 4
          have q5 : W7.cell? ⟨g2, 5, none⟩ = some (.slice none 0 0) := D2d.cell 5
          have q6 : W7.cell? ⟨g2, 6, none⟩ = some (.slice none 0 0) := D2d.cell 6
          have r0 := D2d.frozen 0
          have r1 := D2d.frozen 1
          have r2 := D2d.frozen 2
          have r3 := D2d.frozen 3
          have r4 := D2d.frozen 4
          have r5 := D2d.frozen 5
          have r6 := D2d.frozen 6
          have z2 := D2d.lt
          have t0 : W7.cell? ⟨g3, 0, none⟩ = some (.int .i64 0) := D3d.cell 0
          have t1 : W7.cell? ⟨g3, 1, none⟩ = some (.int .i64 0) := D3d.cell 1
          have t2 : W7.cell? ⟨g3, 2, none⟩ = some (.int .i64 0) := D3d.cell 2
          have t3 : W7.cell? ⟨g3, 3, none⟩ = some (.int .i64 0) := D3d.cell 3
          have t4 : W7.cell? ⟨g3, 4, none⟩ = some (.int .i64 0) := D3d.cell 4
          have v0 := D3d.frozen 0
          have v1 := D3d.frozen 1
          have v2 := D3d.frozen 2
          have v3 := D3d.frozen 3
          have v4 := D3d.frozen 4
          have z3 := D3d.lt
          have hl7 := hl4.trans hl47
          by_cases h0 : er = 0
          · subst h0
            go_wp2
            go_region
            all_goals
              go_wp2_with fail
              refine bodyPost_ret (v := .tuple #[.agg #[.int .i64 len, .int .i64 wd, .int .i64 rx, .int .i64 ry, .slice S1 sz.length d1, .slice S2 pl.length d2, .slice P ys.length pc], .agg #[.int .i64 bt, .int .i64 bp, .int .i64 bd, .int .i64 bw, .int .i64 bs], .bool true]) (by simp [results, Try.results21, go_sem, q0, q1, q2, q3, q4, q5, q6, t0, t1, t2, t3, t4]) rfl ?_
              have hbal : (⟨bt, bp, bd, bw, bs⟩ : Bal) = balR rs ps ys := congrArg Prod.fst (Hbal.out (by first | trivial | rfl)).1
              have hPf := Hfin.out (puts5 (puts7 W7 g2 (.int .i64 len) (.int .i64 wd) (.int .i64 rx) (.int .i64 ry) (.slice S1 sz.length d1) (.slice S2 pl.length d2) (.slice P ys.length pc)) g3 (.int .i64 bt) (.int .i64 bp) (.int .i64 bd) (.int .i64 bw) (.int .i64 bs)) (fun b hbb1 hbb2 => (puts5_block (by omega)).trans ((puts7_block (by omega)).trans (hl47.block b (by omega))))
              have hlf := put5 (a := .int .i64 bt) (b := .int .i64 bp) (c := .int .i64 bd) (d := .int .i64 bw) (e := .int .i64 bs) (put7' (a := .int .i64 len) (b := .int .i64 wd) (c := .int .i64 rx) (d := .int .i64 ry) (e := .slice S1 sz.length d1) (f := .slice S2 pl.length d2) (k := .slice P ys.length pc) hl7 hg2) hg3
              unfold puts5 puts7 at hlf hPf
              have hok : OK := Hok.out.2 ⟨Hfe.out, hz, by rw [← Hyn.out]; exact h8, by rw [Hacc.out]⟩
              refine Hyes.out _ _ hok ⟨S1, d1, S2, d2, P, pc, ys, ?_, hys, h8, t5', t6', Plys.later hPf (Later.drew (Later.refl _)), hlf.drew⟩
              rw [← hbal]; rfl
          · have dz : (er == 0) = false := by simpa using h0
            go_wp2
            go_region
            all_goals
              go_wp2_with fail
              refine bodyPost_ret (v := .tuple #[.agg #[.int .i64 len, .int .i64 wd, .int .i64 rx, .int .i64 ry, .slice S1 sz.length d1, .slice S2 pl.length d2, .slice P ys.length pc], .agg #[.int .i64 bt, .int .i64 bp, .int .i64 bd, .int .i64 bw, .int .i64 bs], .bool false]) (by simp [results, Try.results21, go_sem, q0, q1, q2, q3, q4, q5, q6, t0, t1, t2, t3, t4]) rfl ?_
              have hlf := put5 (a := .int .i64 bt) (b := .int .i64 bp) (c := .int .i64 bd) (d := .int .i64 bw) (e := .int .i64 bs) (put7' (a := .int .i64 len) (b := .int .i64 wd) (c := .int .i64 rx) (d := .int .i64 ry) (e := .slice S1 sz.length d1) (f := .slice S2 pl.length d2) (k := .slice P ys.length pc) hl7 hg2) hg3
              unfold puts5 puts7 at hlf
              exact Hno.out _ _ (fun h => h0 (by have := (Hok.out.1 h).2.2.2; rw [Hacc.out] at this; exact this)) ⟨_, _, _, _, _, _, _, _, _, _, _, _, _, _, _, _, _, _, rfl, hlf.drew⟩
        · have d8 : decide ((8 : Int) < (ys.length : Int)) = true := by simp; omega
          have q0 : W4.cell? ⟨g2, 0, none⟩ = some (.int .i64 0) := D2c.cell 0
          have q1 : W4.cell? ⟨g2, 1, none⟩ = some (.int .i64 0) := D2c.cell 1
          have q2 : W4.cell? ⟨g2, 2, none⟩ = some (.int .i64 0) := D2c.cell 2
          have q3 : W4.cell? ⟨g2, 3, none⟩ = some (.int .i64 0) := D2c.cell 3
          have q4 : W4.cell? ⟨g2, 4, none⟩ = some (.slice none 0 0) := D2c.cell 4
          have q5 : W4.cell? ⟨g2, 5, none⟩ = some (.slice none 0 0) := D2c.cell 5
          have q6 : W4.cell? ⟨g2, 6, none⟩ = some (.slice none 0 0) := D2c.cell 6
          have r0 := D2c.frozen 0
          have r1 := D2c.frozen 1
          have r2 := D2c.frozen 2
          have r3 := D2c.frozen 3
          have r4 := D2c.frozen 4
          have r5 := D2c.frozen 5
          have r6 := D2c.frozen 6
          have z2 := D2c.lt
          have t0 : W4.cell? ⟨g3, 0, none⟩ = some (.int .i64 0) := D3c.cell 0
          have t1 : W4.cell? ⟨g3, 1, none⟩ = some (.int .i64 0) := D3c.cell 1
          have t2 : W4.cell? ⟨g3, 2, none⟩ = some (.int .i64 0) := D3c.cell 2
          have t3 : W4.cell? ⟨g3, 3, none⟩ = some (.int .i64 0) := D3c.cell 3
          have t4 : W4.cell? ⟨g3, 4, none⟩ = some (.int .i64 0) := D3c.cell 4
          have v0 := D3c.frozen 0
          have v1 := D3c.frozen 1
          have v2 := D3c.frozen 2
          have v3 := D3c.frozen 3
          have v4 := D3c.frozen 4
          have z3 := D3c.lt
          go_upto_region 5 with fail
          go_wp2
          refine bodyPost_ret (v := .tuple #[.agg #[.int .i64 0, .int .i64 0, .int .i64 0, .int .i64 0, .slice none 0 0, .slice none 0 0, .slice none 0 0], .agg #[.int .i64 0, .int .i64 0, .int .i64 0, .int .i64 0, .int .i64 0], .bool false]) (by simp [results, Try.results21, go_sem, q0, q1, q2, q3, q4, q5, q6, t0, t1, t2, t3, t4]) rfl (Hno.out _ _ (fun h => by have := (Hok.out.1 h).2.2.1; rw [← Hyn.out] at this; omega) ⟨_, _, _, _, _, _, _, _, _, _, _, _, _, _, _, _, _, _, rfl, (by repeat' (with_reducible first | exact Later.refl _ | assumption | refine Later.drew ?_ | refine Later.drewN ?_ _ | refine Later.alloc ?_ _ | refine Later.put ?_ (by omega) _ | refine Later.trans ?_ (by assumption)))⟩)
      · refine name_world (fun W4 hW4 => ?_)
        have hl34 : Later w3 W4 := by rw [hW4]; exact (by repeat' (with_reducible first | exact Later.refl _ | assumption | refine Later.drew ?_ | refine Later.drewN ?_ _ | refine Later.alloc ?_ _ | refine Later.put ?_ (by omega) _ | refine Later.trans ?_ (by assumption)))
        have D5 : Blk W4 w3.heap.size 39 #[.int .i64 0, .int .i64 0, .int .i64 0, .int .i64 0, .slice none 0 0, .slice none 0 0, .slice none 0 0] := by rw [hW4]; exact (by repeat' (with_reducible first | assumption | (refine Blk.newAt ?_; simp; done) | refine Blk.alloc ?_ _ | refine Blk.drew ?_ | refine Blk.drewN ?_ _ | refine Blk.later ?_ (by assumption)))
        clear hW4
        have hl24 : Later w2 W4 := hb3.trans hl34
        have hl4 : Later w W4 := hl2.trans hl24
        have D2c := D2b.later hl24
        have D3c := D3b.later hl24
        generalize w3.heap.size = g5 at *
        clear k0 k1 k2 k3 k4 k5 k6 k7 k8 k9 zk
        have l0 : W4.cell? ⟨g5, 0, none⟩ = some (.int .i64 0) := D5.cell 0
        have l1 : W4.cell? ⟨g5, 1, none⟩ = some (.int .i64 0) := D5.cell 1
        have l2 : W4.cell? ⟨g5, 2, none⟩ = some (.int .i64 0) := D5.cell 2
        have l3 : W4.cell? ⟨g5, 3, none⟩ = some (.int .i64 0) := D5.cell 3
        have l4 : W4.cell? ⟨g5, 4, none⟩ = some (.slice none 0 0) := D5.cell 4
        have l5 : W4.cell? ⟨g5, 5, none⟩ = some (.slice none 0 0) := D5.cell 5
        have l6 : W4.cell? ⟨g5, 6, none⟩ = some (.slice none 0 0) := D5.cell 6
        have zl := D5.lt
        have Hz := Lib.hid hz
        generalize (spR ⟨len, wd, rx, ry, s1, c1, sz, s2, c2, pl, qa, qc, ps, ra, rc, rs, la, lc, lots, aa, ac, plies⟩).2.2 = ez at *
        have dz : (ez != 0) = true := by simpa using hz
        have q0 : W4.cell? ⟨g2, 0, none⟩ = some (.int .i64 0) := D2c.cell 0
        have q1 : W4.cell? ⟨g2, 1, none⟩ = some (.int .i64 0) := D2c.cell 1
        have q2 : W4.cell? ⟨g2, 2, none⟩ = some (.int .i64 0) := D2c.cell 2
        have q3 : W4.cell? ⟨g2, 3, none⟩ = some (.int .i64 0) := D2c.cell 3
        have q4 : W4.cell? ⟨g2, 4, none⟩ = some (.slice none 0 0) := D2c.cell 4
        have q5 : W4.cell? ⟨g2, 5, none⟩ = some (.slice none 0 0) := D2c.cell 5
        have q6 : W4.cell? ⟨g2, 6, none⟩ = some (.slice none 0 0) := D2c.cell 6
        have r0 := D2c.frozen 0
        have r1 := D2c.frozen 1
        have r2 := D2c.frozen 2
        have r3 := D2c.frozen 3
        have r4 := D2c.frozen 4
        have r5 := D2c.frozen 5
        have r6 := D2c.frozen 6
        have z2 := D2c.lt
        have t0 : W4.cell? ⟨g3, 0, none⟩ = some (.int .i64 0) := D3c.cell 0
        have t1 : W4.cell? ⟨g3, 1, none⟩ = some (.int .i64 0) := D3c.cell 1
        have t2 : W4.cell? ⟨g3, 2, none⟩ = some (.int .i64 0) := D3c.cell 2
        have t3 : W4.cell? ⟨g3, 3, none⟩ = some (.int .i64 0) := D3c.cell 3
        have t4 : W4.cell? ⟨g3, 4, none⟩ = some (.int .i64 0) := D3c.cell 4
        have v0 := D3c.frozen 0
        have v1 := D3c.frozen 1
        have v2 := D3c.frozen 2
        have v3 := D3c.frozen 3
        have v4 := D3c.frozen 4
        have z3 := D3c.lt
        go_upto_region 5 with fail
        go_wp2
        refine bodyPost_ret (v := .tuple #[.agg #[.int .i64 0, .int .i64 0, .int .i64 0, .int .i64 0, .slice none 0 0, .slice none 0 0, .slice none 0 0], .agg #[.int .i64 0, .int .i64 0, .int .i64 0, .int .i64 0, .int .i64 0], .bool false]) (by simp [results, Try.results21, go_sem, q0, q1, q2, q3, q4, q5, q6, t0, t1, t2, t3, t4]) rfl (Hno.out _ _ (fun h => Hz.out (Hok.out.1 h).2.1) ⟨_, _, _, _, _, _, _, _, _, _, _, _, _, _, _, _, _, _, rfl, (by repeat' (with_reducible first | exact Later.refl _ | assumption | refine Later.drew ?_ | refine Later.drewN ?_ _ | refine Later.alloc ?_ _ | refine Later.put ?_ (by omega) _ | refine Later.trans ?_ (by assumption)))⟩)
  · have d6 : decide ((6 : Int) < (plies.length : Int)) = true := by simp; omega
    have hfe : few8 ⟨len, wd, rx, ry, s1, c1, sz, s2, c2, pl, qa, qc, ps, ra, rc, rs, la, lc, lots, aa, ac, plies⟩ = false := by rw [hf8]; simp; omega
    clear hf8
    have Hfe := Lib.hid hfe
    clear hfe
    go_enter Try.func21, Try.ntmps21
    go_upto_region 1 with fail
    refine name_world (fun W1 hW1 => ?_)
    have hl1 : Later w W1 := by rw [hW1]; exact (by repeat' (with_reducible first | exact Later.refl _ | assumption | refine Later.drew ?_ | refine Later.drewN ?_ _ | refine Later.alloc ?_ _ | refine Later.put ?_ (by omega) _ | refine Later.trans ?_ (by assumption)))
    have D1 : Blk W1 w.heap.size 31 #[.int .i64 len, .int .i64 wd, .int .i64 rx, .int .i64 ry, .slice s1 sz.length c1, .slice s2 pl.length c2, .slice qa ps.length qc, .slice ra rs.length rc, .slice la lots.length lc, .slice aa plies.length ac] := by rw [hW1]; exact (by repeat' (with_reducible first | assumption | (refine Blk.newAt ?_; simp; done) | refine Blk.alloc ?_ _ | refine Blk.drew ?_ | refine Blk.drewN ?_ _ | refine Blk.later ?_ (by assumption)))
    have D2 : Blk W1 (w.heap.size + 1) 39 #[.int .i64 0, .int .i64 0, .int .i64 0, .int .i64 0, .slice none 0 0, .slice none 0 0, .slice none 0 0] := by rw [hW1]; exact (by repeat' (with_reducible first | assumption | (refine Blk.newAt ?_; simp; done) | refine Blk.alloc ?_ _ | refine Blk.drew ?_ | refine Blk.drewN ?_ _ | refine Blk.later ?_ (by assumption)))
    have D3 : Blk W1 (w.heap.size + 1 + 1) 58 #[.int .i64 0, .int .i64 0, .int .i64 0, .int .i64 0, .int .i64 0] := by rw [hW1]; exact (by repeat' (with_reducible first | assumption | (refine Blk.newAt ?_; simp; done) | refine Blk.alloc ?_ _ | refine Blk.drew ?_ | refine Blk.drewN ?_ _ | refine Blk.later ?_ (by assumption)))
    clear hW1
    have hg2 : w.heap.size ≤ w.heap.size + 1 := by omega
    have hg3 : w.heap.size ≤ w.heap.size + 1 + 1 := by omega
    have hg23 : w.heap.size + 1 ≠ w.heap.size + 1 + 1 := by omega
    have hg1 : w.heap.size ≠ w.heap.size + 1 := by omega
    have hg1b : w.heap.size ≠ w.heap.size + 1 + 1 := by omega
    generalize w.heap.size + 1 + 1 = g3 at *
    generalize w.heap.size + 1 = g2 at *
    have k0 : W1.cell? ⟨w.heap.size, 0, none⟩ = some (.int .i64 len) := D1.cell 0
    have k1 : W1.cell? ⟨w.heap.size, 1, none⟩ = some (.int .i64 wd) := D1.cell 1
    have k2 : W1.cell? ⟨w.heap.size, 2, none⟩ = some (.int .i64 rx) := D1.cell 2
    have k3 : W1.cell? ⟨w.heap.size, 3, none⟩ = some (.int .i64 ry) := D1.cell 3
    have k4 : W1.cell? ⟨w.heap.size, 4, none⟩ = some (.slice s1 sz.length c1) := D1.cell 4
    have k5 : W1.cell? ⟨w.heap.size, 5, none⟩ = some (.slice s2 pl.length c2) := D1.cell 5
    have k6 : W1.cell? ⟨w.heap.size, 6, none⟩ = some (.slice qa ps.length qc) := D1.cell 6
    have k7 : W1.cell? ⟨w.heap.size, 7, none⟩ = some (.slice ra rs.length rc) := D1.cell 7
    have k8 : W1.cell? ⟨w.heap.size, 8, none⟩ = some (.slice la lots.length lc) := D1.cell 8
    have k9 : W1.cell? ⟨w.heap.size, 9, none⟩ = some (.slice aa plies.length ac) := D1.cell 9
    have zk := D1.lt
    go_upto_region 2 with fail
    have q0 : W1.cell? ⟨g2, 0, none⟩ = some (.int .i64 0) := D2.cell 0
    have q1 : W1.cell? ⟨g2, 1, none⟩ = some (.int .i64 0) := D2.cell 1
    have q2 : W1.cell? ⟨g2, 2, none⟩ = some (.int .i64 0) := D2.cell 2
    have q3 : W1.cell? ⟨g2, 3, none⟩ = some (.int .i64 0) := D2.cell 3
    have q4 : W1.cell? ⟨g2, 4, none⟩ = some (.slice none 0 0) := D2.cell 4
    have q5 : W1.cell? ⟨g2, 5, none⟩ = some (.slice none 0 0) := D2.cell 5
    have q6 : W1.cell? ⟨g2, 6, none⟩ = some (.slice none 0 0) := D2.cell 6
    have r0 := D2.frozen 0
    have r1 := D2.frozen 1
    have r2 := D2.frozen 2
    have r3 := D2.frozen 3
    have r4 := D2.frozen 4
    have r5 := D2.frozen 5
    have r6 := D2.frozen 6
    have z2 := D2.lt
    have t0 : W1.cell? ⟨g3, 0, none⟩ = some (.int .i64 0) := D3.cell 0
    have t1 : W1.cell? ⟨g3, 1, none⟩ = some (.int .i64 0) := D3.cell 1
    have t2 : W1.cell? ⟨g3, 2, none⟩ = some (.int .i64 0) := D3.cell 2
    have t3 : W1.cell? ⟨g3, 3, none⟩ = some (.int .i64 0) := D3.cell 3
    have t4 : W1.cell? ⟨g3, 4, none⟩ = some (.int .i64 0) := D3.cell 4
    have v0 := D3.frozen 0
    have v1 := D3.frozen 1
    have v2 := D3.frozen 2
    have v3 := D3.frozen 3
    have v4 := D3.frozen 4
    have z3 := D3.lt
    go_wp2
    refine bodyPost_ret (v := .tuple #[.agg #[.int .i64 0, .int .i64 0, .int .i64 0, .int .i64 0, .slice none 0 0, .slice none 0 0, .slice none 0 0], .agg #[.int .i64 0, .int .i64 0, .int .i64 0, .int .i64 0, .int .i64 0], .bool false]) (by simp [results, Try.results21, go_sem, q0, q1, q2, q3, q4, q5, q6, t0, t1, t2, t3, t4]) rfl (Hno.out _ _ (fun h => by have := (Hok.out.1 h).1; rw [Hfe.out] at this; cases this) ⟨_, _, _, _, _, _, _, _, _, _, _, _, _, _, _, _, _, _, rfl, (by repeat' (with_reducible first | exact Later.refl _ | assumption | refine Later.drew ?_ | refine Later.drewN ?_ _ | refine Later.alloc ?_ _ | refine Later.put ?_ (by omega) _ | refine Later.trans ?_ (by assumption)))⟩)

end Go.Proofs.Ytpiniflhaokkaaa
