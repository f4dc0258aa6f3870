/-
  garmentlaw38.laid.
-/
import Derived.Test.YtdhakoecjmaebaaOpen38
namespace Go.Proofs.Ytdhakoecjmaebaa
open Go.RowKit
set_option linter.unusedSimpArgs false
set_option linter.unusedVariables false

def spR (c : C8) : List Pl × List Qd × Int := spreadR c.len c.wd c.ps c.rs c.lots c.plies
/-- What laid returns. -/
def LaidPost (c : C8) (w : World) (e : Ending) (w' : World) : Prop :=
  ((few8 c = true ∧ (spR c).2.2 = 0) ∧ ∃ S1 c1 S2 c2 P pc X xc ys, e = .returned (.tuple #[.agg #[.int .i64 c.len, .int .i64 c.wd, .int .i64 c.rx, .int .i64 c.ry, .slice S1 c.sz.length c1, .slice S2 c.pl.length c2, .slice P ys.length pc], .slice X (spR c).2.1.length xc, .bool true]) ∧
    ys.map Py.pl = (spR c).1 ∧ c.sz.length ≤ c1 ∧ c1 ≤ maxLen ∧ c.pl.length ≤ c2 ∧ c2 ≤ maxLen ∧ ys.length ≤ pc ∧ pc ≤ maxLen ∧ (spR c).2.1.length ≤ xc ∧ xc ≤ maxLen ∧
    Ints w' S1 c.sz ∧ Pcs w' S2 c.pl ∧ Plys w' P ys ∧ Qds w' X (spR c).2.1 ∧ Later w w') ∨
  (¬ (few8 c = true ∧ (spR c).2.2 = 0) ∧ e = .returned (.tuple #[.agg #[.int .i64 0, .int .i64 0, .int .i64 0, .int .i64 0, .slice none 0 0, .slice none 0 0, .slice none 0 0], .slice none 0 0, .bool false]) ∧ Later w w')
theorem few8_all {c : C8} (h : few8 c = true) : c.plies.length ≤ 6 ∧ c.ps.length ≤ 6 ∧ c.rs.length ≤ 6 ∧ c.lots.length ≤ 8 ∧ c.sz.length ≤ 7 ∧ c.pl.length ≤ 8 ∧ ∀ p ∈ c.ps, p.length ≤ 12 := by
  unfold few8 at h
  rw [Bool.and_eq_true, decide_eq_true_iff] at h
  obtain ⟨a, b, d, _, f, g, k⟩ := f38_all h.2
  exact ⟨by omega, a, b, d, f, g, k⟩
theorem law38_spread (c : C8) (w : World) (hc : C8Ok w c) (hf : few8 c = true) :
    Calls Try.prog 8 #[.agg #[.int .i64 c.len, .int .i64 c.wd, .int .i64 c.rx, .int .i64 c.ry, .slice c.s1 c.sz.length c.c1, .slice c.s2 c.pl.length c.c2], .slice c.qa c.ps.length c.qc, .slice c.ra c.rs.length c.rc, .slice c.la c.lots.length c.lc, .slice c.aa c.plies.length c.ac] w
      (SpreadPost c.len c.wd c.rx c.ry c.sz c.pl (spR c) w) := by
  obtain ⟨a1, a2, a3, a4, a5, a6, a7⟩ := few8_all hf
  refine spread_Spread c.qa c.ra c.la c.s1 c.s2 c.aa c.qc c.rc c.lc c.c1 c.c2 c.ac c.len c.wd c.rx c.ry c.sz c.pl c.ps c.rs c.lots c.plies w (fun h => ?_) hc.sz (by omega) (fun h => ?_) hc.pl (by omega) hc.ps (fun p hp => by have := a7 p hp; omega) hc.rs (by omega) hc.lots (by omega) hc.plies (by omega)
  · rcases hl : c.sz with _ | ⟨n, l⟩
    · rfl
    · obtain ⟨b, o, e, _⟩ := hc.sz (by rw [hl]; simp)
      rw [h] at e; cases e
  · rcases hl : c.pl with _ | ⟨n, l⟩
    · rfl
    · obtain ⟨b, o, e, _⟩ := hc.pl (by rw [hl]; simp)
      rw [h] at e; cases e

set_option maxHeartbeats 8000000 in
set_option maxRecDepth 100000 in
theorem law38_laid (c : C8) (w : World) (hc : C8Ok w c) : Calls Try.prog 5 #[c.agg] w (LaidPost c w) := by
  have HF := Lib.hid (fun W (hW : Later w W) => law38_few c W (hc.later hW))
  have HS := Lib.hid (fun W (hW : Later w W) (hf : few8 c = true) => law38_spread c W (hc.later hW) hf)
  have Hno := Lib.hid (show ∀ W, ¬ (few8 c = true ∧ (spR c).2.2 = 0) → Later w W → LaidPost c w (.returned (.tuple #[.agg #[.int .i64 0, .int .i64 0, .int .i64 0, .int .i64 0, .slice none 0 0, .slice none 0 0, .slice none 0 0], .slice none 0 0, .bool false])) W from fun W h k => .inr ⟨h, rfl, k⟩)
  have Hyes := Lib.hid (show ∀ e W, LaidPost c w e W → LaidPost c w e W from fun e W h => h)
  unfold C8.agg at HF ⊢
  have Hpost := Lib.hid (show LaidPost c w = LaidPost c w from rfl)
  obtain ⟨f, hf⟩ : ∃ f, few8 c = f := ⟨_, rfl⟩
  rw [hf] at HF
  generalize hQ : LaidPost c w = Q at Hno ⊢
  have HQ := Lib.hid hQ
  clear hQ Hpost Hyes
  have Hf := Lib.hid hf
  clear hf
  obtain ⟨len, wd, rx, ry, s1, c1, sz, s2, c2, pl, qa, qc, ps, ra, rc, rs, la, lc, lots, aa, ac, plies⟩ := c
  simp only [] at HF HS ⊢
  go_enter Try.func5, Try.ntmps5
  go_upto_region 1 with fail
  refine name_world (fun W1 hW1 => ?_)
  have hl1 : Later w W1 := by rw [hW1]; exact (by repeat' (with_reducible first | exact Later.refl _ | assumption | refine Later.drew ?_ | refine Later.drewN ?_ _ | refine Later.alloc ?_ _ | refine Later.put ?_ (by omega) _ | refine Later.trans ?_ (by assumption)))
  have D1 : Blk W1 w.heap.size 31 #[.int .i64 len, .int .i64 wd, .int .i64 rx, .int .i64 ry, .slice s1 sz.length c1, .slice s2 pl.length c2, .slice qa ps.length qc, .slice ra rs.length rc, .slice la lots.length lc, .slice aa plies.length ac] := by rw [hW1]; exact (by repeat' (with_reducible first | assumption | (refine Blk.newAt ?_; simp; done) | refine Blk.alloc ?_ _ | refine Blk.drew ?_ | refine Blk.drewN ?_ _ | refine Blk.later ?_ (by assumption)))
  have D2 : Blk W1 (w.heap.size + 1) 39 #[.int .i64 0, .int .i64 0, .int .i64 0, .int .i64 0, .slice none 0 0, .slice none 0 0, .slice none 0 0] := by rw [hW1]; exact (by repeat' (with_reducible first | assumption | (refine Blk.newAt ?_; simp; done) | refine Blk.alloc ?_ _ | refine Blk.drew ?_ | refine Blk.drewN ?_ _ | refine Blk.later ?_ (by assumption)))
  clear hW1
  have hg2 : w.heap.size ≤ w.heap.size + 1 := by omega
  generalize w.heap.size + 1 = g2 at *
  have k0 : W1.cell? ⟨w.heap.size, 0, none⟩ = some (.int .i64 len) := D1.cell 0
  have k1 : W1.cell? ⟨w.heap.size, 1, none⟩ = some (.int .i64 wd) := D1.cell 1
  have k2 : W1.cell? ⟨w.heap.size, 2, none⟩ = some (.int .i64 rx) := D1.cell 2
  have k3 : W1.cell? ⟨w.heap.size, 3, none⟩ = some (.int .i64 ry) := D1.cell 3
  have k4 : W1.cell? ⟨w.heap.size, 4, none⟩ = some (.slice s1 sz.length c1) := D1.cell 4
  have k5 : W1.cell? ⟨w.heap.size, 5, none⟩ = some (.slice s2 pl.length c2) := D1.cell 5
  have k6 : W1.cell? ⟨w.heap.size, 6, none⟩ = some (.slice qa ps.length qc) := D1.cell 6
  have k7 : W1.cell? ⟨w.heap.size, 7, none⟩ = some (.slice ra rs.length rc) := D1.cell 7
  have k8 : W1.cell? ⟨w.heap.size, 8, none⟩ = some (.slice la lots.length lc) := D1.cell 8
  have k9 : W1.cell? ⟨w.heap.size, 9, none⟩ = some (.slice aa plies.length ac) := D1.cell 9
  have zk := D1.lt
  cases f
  · go_upto_region 2 with (first | (go_at_call 10; (with_reducible refine (HF.out _ hl1).mono ?_); rintro e w2 ⟨rfl, hb2⟩))
    have D2b := D2.later hb2
    have q0 : w2.cell? ⟨g2, 0, none⟩ = some (.int .i64 0) := D2b.cell 0
    have q1 : w2.cell? ⟨g2, 1, none⟩ = some (.int .i64 0) := D2b.cell 1
    have q2 : w2.cell? ⟨g2, 2, none⟩ = some (.int .i64 0) := D2b.cell 2
    have q3 : w2.cell? ⟨g2, 3, none⟩ = some (.int .i64 0) := D2b.cell 3
    have q4 : w2.cell? ⟨g2, 4, none⟩ = some (.slice none 0 0) := D2b.cell 4
    have q5 : w2.cell? ⟨g2, 5, none⟩ = some (.slice none 0 0) := D2b.cell 5
    have q6 : w2.cell? ⟨g2, 6, none⟩ = some (.slice none 0 0) := D2b.cell 6
    have r0 := D2b.frozen 0
    have r1 := D2b.frozen 1
    have r2 := D2b.frozen 2
    have r3 := D2b.frozen 3
    have r4 := D2b.frozen 4
    have r5 := D2b.frozen 5
    have r6 := D2b.frozen 6
    have z2 := D2b.lt
    go_wp2
    refine bodyPost_ret (v := .tuple #[.agg #[.int .i64 0, .int .i64 0, .int .i64 0, .int .i64 0, .slice none 0 0, .slice none 0 0, .slice none 0 0], .slice none 0 0, .bool false]) (by simp [results, Try.results5, go_sem, q0, q1, q2, q3, q4, q5, q6]) rfl (Hno.out _ (by rw [Hf.out]; simp) (put7 (hl1.trans hb2) hg2))
  · have HS2 := Lib.hid (fun W hW => HS.out W hW Hf.out)
    clear HS
    go_upto_region 3 with (first | (go_at_call 10; (with_reducible refine (HF.out _ hl1).mono ?_); rintro e w2 ⟨rfl, hb2⟩))
    have D1b := D1.later hb2
    have hl2 := hl1.trans hb2
    clear k0 k1 k2 k3 k4 k5 k6 k7 k8 k9 zk
    have k0 : w2.cell? ⟨w.heap.size, 0, none⟩ = some (.int .i64 len) := D1b.cell 0
    have k1 : w2.cell? ⟨w.heap.size, 1, none⟩ = some (.int .i64 wd) := D1b.cell 1
    have k2 : w2.cell? ⟨w.heap.size, 2, none⟩ = some (.int .i64 rx) := D1b.cell 2
    have k3 : w2.cell? ⟨w.heap.size, 3, none⟩ = some (.int .i64 ry) := D1b.cell 3
    have k4 : w2.cell? ⟨w.heap.size, 4, none⟩ = some (.slice s1 sz.length c1) := D1b.cell 4
    have k5 : w2.cell? ⟨w.heap.size, 5, none⟩ = some (.slice s2 pl.length c2) := D1b.cell 5
    have k6 : w2.cell? ⟨w.heap.size, 6, none⟩ = some (.slice qa ps.length qc) := D1b.cell 6
    have k7 : w2.cell? ⟨w.heap.size, 7, none⟩ = some (.slice ra rs.length rc) := D1b.cell 7
    have k8 : w2.cell? ⟨w.heap.size, 8, none⟩ = some (.slice la lots.length lc) := D1b.cell 8
    have k9 : w2.cell? ⟨w.heap.size, 9, none⟩ = some (.slice aa plies.length ac) := D1b.cell 9
    have zk := D1b.lt
    go_upto_region 4 with (first | (go_at_call 8; (with_reducible refine (HS2.out _ hl2).mono ?_); rintro e w3 (⟨hz, S1, d1, S2, d2, P, pc, X, xc, ys, rfl, hys, t1, t2, t3, t4, t5, t6, t7, t8, hcl, hb3⟩ | ⟨hz, rfl, hb3⟩)))
    · refine name_world (fun W4 hW4 => ?_)
      have hl34 : Later w3 W4 := by rw [hW4]; exact (by repeat' (with_reducible first | exact Later.refl _ | assumption | refine Later.drew ?_ | refine Later.drewN ?_ _ | refine Later.alloc ?_ _ | refine Later.put ?_ (by omega) _ | refine Later.trans ?_ (by assumption)))
      have D5 : Blk W4 w3.heap.size 39 #[.int .i64 len, .int .i64 wd, .int .i64 rx, .int .i64 ry, .slice S1 sz.length d1, .slice S2 pl.length d2, .slice P ys.length pc] := by rw [hW4]; exact (by repeat' (with_reducible first | assumption | (refine Blk.newAt ?_; simp; done) | refine Blk.alloc ?_ _ | refine Blk.drew ?_ | refine Blk.drewN ?_ _ | refine Blk.later ?_ (by assumption)))
      clear hW4
      have hl4 : Later w W4 := hl2.trans (hb3.trans hl34)
      have D2b := D2.later (hb2.trans (hb3.trans hl34))
      have l0 : W4.cell? ⟨w3.heap.size, 0, none⟩ = some (.int .i64 len) := D5.cell 0
      have l1 : W4.cell? ⟨w3.heap.size, 1, none⟩ = some (.int .i64 wd) := D5.cell 1
      have l2 : W4.cell? ⟨w3.heap.size, 2, none⟩ = some (.int .i64 rx) := D5.cell 2
      have l3 : W4.cell? ⟨w3.heap.size, 3, none⟩ = some (.int .i64 ry) := D5.cell 3
      have l4 : W4.cell? ⟨w3.heap.size, 4, none⟩ = some (.slice S1 sz.length d1) := D5.cell 4
      have l5 : W4.cell? ⟨w3.heap.size, 5, none⟩ = some (.slice S2 pl.length d2) := D5.cell 5
      have l6 : W4.cell? ⟨w3.heap.size, 6, none⟩ = some (.slice P ys.length pc) := D5.cell 6
      have zl := D5.lt
      have hg2w : g2 < w2.heap.size := by have := D2.lt; have := hb2.size; omega
      have Hcl := Lib.hid (fun (W' : World) (hW : ∀ b, b ≠ g2 → W'.heap[b]? = W4.heap[b]?) => hcl W' (fun b h1 h2 => (hW b (by omega)).trans (hl34.block b h2)))
      clear hcl k0 k1 k2 k3 k4 k5 k6 k7 k8 k9 zk
      have q0 : W4.cell? ⟨g2, 0, none⟩ = some (.int .i64 0) := D2b.cell 0
      have q1 : W4.cell? ⟨g2, 1, none⟩ = some (.int .i64 0) := D2b.cell 1
      have q2 : W4.cell? ⟨g2, 2, none⟩ = some (.int .i64 0) := D2b.cell 2
      have q3 : W4.cell? ⟨g2, 3, none⟩ = some (.int .i64 0) := D2b.cell 3
      have q4 : W4.cell? ⟨g2, 4, none⟩ = some (.slice none 0 0) := D2b.cell 4
      have q5 : W4.cell? ⟨g2, 5, none⟩ = some (.slice none 0 0) := D2b.cell 5
      have q6 : W4.cell? ⟨g2, 6, none⟩ = some (.slice none 0 0) := D2b.cell 6
      have r0 := D2b.frozen 0
      have r1 := D2b.frozen 1
      have r2 := D2b.frozen 2
      have r3 := D2b.frozen 3
      have r4 := D2b.frozen 4
      have r5 := D2b.frozen 5
      have r6 := D2b.frozen 6
      have z2 := D2b.lt
      generalize w3.heap.size = g5 at *
      go_wp2
      refine bodyPost_ret (v := .tuple #[.agg #[.int .i64 len, .int .i64 wd, .int .i64 rx, .int .i64 ry, .slice S1 sz.length d1, .slice S2 pl.length d2, .slice P ys.length pc], .slice X (spR ⟨len, wd, rx, ry, s1, c1, sz, s2, c2, pl, qa, qc, ps, ra, rc, rs, la, lc, lots, aa, ac, plies⟩).2.1.length xc, .bool true]) (by simp [results, Try.results5, go_sem, q0, q1, q2, q3, q4, q5, q6]) rfl ?_
      rw [← HQ.out]
      obtain ⟨y1, y2, y3, y4⟩ := Hcl.out (puts7 W4 g2 (.int .i64 len) (.int .i64 wd) (.int .i64 rx) (.int .i64 ry) (.slice S1 sz.length d1) (.slice S2 pl.length d2) (.slice P ys.length pc)) (fun b hb => puts7_block hb)
      exact .inl ⟨⟨Hf.out, hz⟩, S1, d1, S2, d2, P, pc, X, xc, ys, rfl, hys, t1, t2, t3, t4, t5, t6, t7, t8, y1, y2, y3, y4, put7 hl4 hg2⟩
    · refine name_world (fun W4 hW4 => ?_)
      have hl34 : Later w3 W4 := by rw [hW4]; exact (by repeat' (with_reducible first | exact Later.refl _ | assumption | refine Later.drew ?_ | refine Later.drewN ?_ _ | refine Later.alloc ?_ _ | refine Later.put ?_ (by omega) _ | refine Later.trans ?_ (by assumption)))
      have D5 : Blk W4 w3.heap.size 39 #[.int .i64 0, .int .i64 0, .int .i64 0, .int .i64 0, .slice none 0 0, .slice none 0 0, .slice none 0 0] := by rw [hW4]; exact (by repeat' (with_reducible first | assumption | (refine Blk.newAt ?_; simp; done) | refine Blk.alloc ?_ _ | refine Blk.drew ?_ | refine Blk.drewN ?_ _ | refine Blk.later ?_ (by assumption)))
      clear hW4
      have hl4 : Later w W4 := hl2.trans (hb3.trans hl34)
      have D2b := D2.later (hb2.trans (hb3.trans hl34))
      have l0 : W4.cell? ⟨w3.heap.size, 0, none⟩ = some (.int .i64 0) := D5.cell 0
      have l1 : W4.cell? ⟨w3.heap.size, 1, none⟩ = some (.int .i64 0) := D5.cell 1
      have l2 : W4.cell? ⟨w3.heap.size, 2, none⟩ = some (.int .i64 0) := D5.cell 2
      have l3 : W4.cell? ⟨w3.heap.size, 3, none⟩ = some (.int .i64 0) := D5.cell 3
      have l4 : W4.cell? ⟨w3.heap.size, 4, none⟩ = some (.slice none 0 0) := D5.cell 4
      have l5 : W4.cell? ⟨w3.heap.size, 5, none⟩ = some (.slice none 0 0) := D5.cell 5
      have l6 : W4.cell? ⟨w3.heap.size, 6, none⟩ = some (.slice none 0 0) := D5.cell 6
      have zl := D5.lt
      clear k0 k1 k2 k3 k4 k5 k6 k7 k8 k9 zk
      have q0 : W4.cell? ⟨g2, 0, none⟩ = some (.int .i64 0) := D2b.cell 0
      have q1 : W4.cell? ⟨g2, 1, none⟩ = some (.int .i64 0) := D2b.cell 1
      have q2 : W4.cell? ⟨g2, 2, none⟩ = some (.int .i64 0) := D2b.cell 2
      have q3 : W4.cell? ⟨g2, 3, none⟩ = some (.int .i64 0) := D2b.cell 3
      have q4 : W4.cell? ⟨g2, 4, none⟩ = some (.slice none 0 0) := D2b.cell 4
      have q5 : W4.cell? ⟨g2, 5, none⟩ = some (.slice none 0 0) := D2b.cell 5
      have q6 : W4.cell? ⟨g2, 6, none⟩ = some (.slice none 0 0) := D2b.cell 6
      have r0 := D2b.frozen 0
      have r1 := D2b.frozen 1
      have r2 := D2b.frozen 2
      have r3 := D2b.frozen 3
      have r4 := D2b.frozen 4
      have r5 := D2b.frozen 5
      have r6 := D2b.frozen 6
      have z2 := D2b.lt
      generalize w3.heap.size = g5 at *
      have Hz := Lib.hid hz
      generalize (spR ⟨len, wd, rx, ry, s1, c1, sz, s2, c2, pl, qa, qc, ps, ra, rc, rs, la, lc, lots, aa, ac, plies⟩).2.2 = ez at *
      have dz : (ez == 0) = false := by simpa using hz
      go_wp2
      refine bodyPost_ret (v := .tuple #[.agg #[.int .i64 0, .int .i64 0, .int .i64 0, .int .i64 0, .slice none 0 0, .slice none 0 0, .slice none 0 0], .slice none 0 0, .bool false]) (by simp [results, Try.results5, go_sem, q0, q1, q2, q3, q4, q5, q6]) rfl (Hno.out _ (fun h => Hz.out h.2) (put7 hl4 hg2))

end Go.Proofs.Ytdhakoecjmaebaa
