/-
  AccountOrder, walked.
-/
import Derived.Test.YtpiniflhaokkaaaZOpen41
import Derived.Test.YtpiniflhaokkaaaZAccC
namespace Go.Proofs.Ytpiniflhaokkaaa
open Go.RowKit
set_option linter.unusedSimpArgs false
set_option linter.unusedVariables false

theorem f40_parts {n1 n2 nl : Nat} {ps : List (List Pt)} {rs : List Rl} {ys : List Py} (h : few38 n1 n2 nl ps rs ys = true) : ∀ y ∈ ys, y.parts.length ≤ 6 := by
  unfold few38 at h
  split at h
  · cases h
  · split at h
    · cases h
    · split at h
      · cases h
      · exact pliesB_all h
theorem few40_all {c : C8} {ys : List Py} (h : few40 c ys = true) : ys.length ≤ 6 ∧ few38 c.sz.length c.pl.length c.lots.length c.ps c.rs ys = true := by
  unfold few40 at h
  rw [Bool.and_eq_true, decide_eq_true_iff] at h
  exact ⟨by omega, h.2⟩
/-- The contract of account.Of for a small lay. -/
theorem few40_of {c : C8} {ys zs : List Py} {A : Option Addr} {k : Nat} {w : World} (hc : C8Ok w c) (h : few40 c ys = true) (hz : ∀ z ∈ zs, z ∈ ys) (hl : zs.length ≤ ys.length) (hy : Plys w A zs) :
    Calls Try.prog 20 #[.agg #[.int .i64 c.len, .int .i64 c.wd, .int .i64 c.rx, .int .i64 c.ry, .slice c.s1 c.sz.length c.c1, .slice c.s2 c.pl.length c.c2, .slice A zs.length k], .slice c.ra c.rs.length c.rc, .slice c.la c.lots.length c.lc, .slice c.qa c.ps.length c.qc] w
      (Ret (.tuple #[(accR c.len c.wd c.ps c.rs c.lots zs).1.agg, .int .i64 (accR c.len c.wd c.ps c.rs c.lots zs).2]) w) := by
  obtain ⟨h6, h38⟩ := few40_all h
  obtain ⟨a1, a2, a3, a4, a5, a6, a7⟩ := f38_all h38
  have hp := f40_parts h38
  exact account_Of c.qa c.ra c.la c.s1 c.s2 A c.qc c.rc c.lc c.sz.length c.c1 c.pl.length c.c2 k c.len c.wd c.rx c.ry c.ps c.rs c.lots zs w hc.ps (fun p hp => by have := a7 p hp; omega) hc.rs (by omega) hc.lots (by omega) hy (by omega) (fun y hy => by have := hp y (hz y hy); omega) (by omega) hc.psc.1
theorem rev_drop {α : Type} {l : List α} {k : Nat} (h : k < l.length) : (l.drop k).reverse = (l.drop (k + 1)).reverse ++ [l[k]] := by
  rw [drop_cons' l k h, List.reverse_cons]

section
attribute [local go_sem] build_lay9
set_option maxHeartbeats 8000000 in
set_option maxRecDepth 100000 in
theorem law40_AccountOrder (hex : ∀ W, Calls Try.prog 17 #[] W (Ret (.bool true) W)) (c : C8) (YA : Option Addr) (yc : Nat) (ys : List Py) (w : World) (hc : C8Ok w c) (hy : ys.length ≤ yc ∧ yc ≤ maxLen ∧ Plys w YA ys) :
    Calls Try.prog 6 #[c.agg, .slice YA ys.length yc] w (Ret (.bool true) w) := by
  have HX := Lib.hid hex
  obtain ⟨hy1, hy2, hyp⟩ := hy
  have HF := Lib.hid (fun W (hW : Later w W) => law40_few c YA yc ys W (hc.later hW) (hyp.later hW))
  rcases hfew : few40 c ys with _ | _
  · rw [hfew] at HF
    unfold C8.agg at HF ⊢
    clear hfew
    obtain ⟨len, wd, rx, ry, s1, c1, sz, s2, c2, pl, qa, qc, ps, ra, rc, rs, la, lc, lots, aa, ac, plies⟩ := c
    simp only [] at HF ⊢
    go_enter Try.func6, Try.ntmps6
    go_wp2_with (first | (go_at_call 16; (with_reducible refine (HF.out _ (by repeat' (with_reducible first | exact Later.refl _ | assumption | refine Later.drew ?_ | refine Later.drewN ?_ _ | refine Later.alloc ?_ _ | refine Later.put ?_ (by omega) _ | refine Later.trans ?_ (by assumption)))).mono ?_); rintro e w2 ⟨rfl, hb2⟩) | (go_at_call 17; (with_reducible refine (HX.out _).mono ?_); rintro e w10 ⟨rfl, hb10⟩))
    go_ret
    exact ⟨rfl, (by repeat' (with_reducible first | exact Later.refl _ | assumption | refine Later.drew ?_ | refine Later.drewN ?_ _ | refine Later.alloc ?_ _ | refine Later.put ?_ (by omega) _ | refine Later.trans ?_ (by assumption)))⟩
  rw [hfew] at HF
  have h6 := (few40_all hfew).1
  have HO := Lib.hid (fun (A : Option Addr) (k : Nat) (zs : List Py) W (hW : Later w W) (hz : ∀ z ∈ zs, z ∈ ys) (hl : zs.length ≤ ys.length) (hP : Plys W A zs) => few40_of (c := c) (k := k) (hc.later hW) hfew hz hl hP)
  have Hrev := Lib.hid (acc_rev (len := c.len) (wd := c.wd) (polys := c.ps) (rs := c.rs) (lots := c.lots) (ys := ys))
  unfold C8.agg at HF ⊢
  unfold Bal.agg at HO
  clear hfew hc
  obtain ⟨len, wd, rx, ry, s1, c1, sz, s2, c2, pl, qa, qc, ps, ra, rc, rs, la, lc, lots, aa, ac, plies⟩ := c
  simp only [] at HF HO Hrev ⊢
  have v0 : IntKind.i64.wrap ((ys.length : Int) - 1) = (ys.length : Int) - 1 := IntWalk.i64_in _ (by omega)
  go_enter Try.func6, Try.ntmps6
  go_upto_region 1 with fail
  refine name_world (fun W1 hW1 => ?_)
  have hl1 : Later w W1 := by rw [hW1]; exact (by repeat' (with_reducible first | exact Later.refl _ | assumption | refine Later.drew ?_ | refine Later.drewN ?_ _ | refine Later.alloc ?_ _ | refine Later.put ?_ (by omega) _ | refine Later.trans ?_ (by assumption)))
  have D1 : Blk W1 w.heap.size 31 #[.int .i64 len, .int .i64 wd, .int .i64 rx, .int .i64 ry, .slice s1 sz.length c1, .slice s2 pl.length c2, .slice qa ps.length qc, .slice ra rs.length rc, .slice la lots.length lc, .slice aa plies.length ac] := by rw [hW1]; exact (by repeat' (with_reducible first | assumption | (refine Blk.newAt ?_; simp; done) | refine Blk.alloc ?_ _ | refine Blk.drew ?_ | refine Blk.drewN ?_ _ | refine Blk.later ?_ (by assumption)))
  clear hW1
  have k0 : W1.cell? ⟨w.heap.size, 0, none⟩ = some (.int .i64 len) := D1.cell 0
  have k1 : W1.cell? ⟨w.heap.size, 1, none⟩ = some (.int .i64 wd) := D1.cell 1
  have k2 : W1.cell? ⟨w.heap.size, 2, none⟩ = some (.int .i64 rx) := D1.cell 2
  have k3 : W1.cell? ⟨w.heap.size, 3, none⟩ = some (.int .i64 ry) := D1.cell 3
  have k4 : W1.cell? ⟨w.heap.size, 4, none⟩ = some (.slice s1 sz.length c1) := D1.cell 4
  have k5 : W1.cell? ⟨w.heap.size, 5, none⟩ = some (.slice s2 pl.length c2) := D1.cell 5
  have k6 : W1.cell? ⟨w.heap.size, 6, none⟩ = some (.slice qa ps.length qc) := D1.cell 6
  have k7 : W1.cell? ⟨w.heap.size, 7, none⟩ = some (.slice ra rs.length rc) := D1.cell 7
  have k8 : W1.cell? ⟨w.heap.size, 8, none⟩ = some (.slice la lots.length lc) := D1.cell 8
  have k9 : W1.cell? ⟨w.heap.size, 9, none⟩ = some (.slice aa plies.length ac) := D1.cell 9
  have zk := D1.lt
  go_upto_region 5 with (first | (go_at_call 16; (with_reducible refine (HF.out _ hl1).mono ?_); rintro e w2 ⟨rfl, hb2⟩))
  have hl2 := hl1.trans hb2
  have D2 := D1.later hb2
  clear k0 k1 k2 k3 k4 k5 k6 k7 k8 k9 zk hb2 hl1 D1 v0
  go_loopw [5, 6] (fun v mv wr => ∃ (m : Nat) (acc : List Py), m ≤ ys.length ∧ mv = .int .i64 ((m : Int) - 1) ∧ acc = (ys.drop m).reverse ∧ OwnR wr w2.heap.size 51 2 Py.cells v acc ∧ Later w2 wr) (fun _ mv _ => (intOf mv + 1).toNat)
  case atStart => exact ⟨ys.length, [], by omega, rfl, by simp, World.ownsRow_nil _ _ _ _, Later.refl _⟩
  case round =>
    obtain ⟨m, acc, hm, rfl, hacc, ho, hb⟩ := hrel
    have Hacc := Lib.hid hacc
    have hal : acc.length + m ≤ 6 := by rw [hacc]; simp; omega
    clear hacc
    by_cases h0 : 0 < m
    · obtain ⟨k, rfl⟩ : ∃ k, m = k + 1 := ⟨m - 1, by omega⟩
      have hk : k < ys.length := by omega
      have ek : ((k + 1 : Nat) : Int) - 1 = (k : Int) := by omega
      obtain ⟨bp, op, rfl, e1, e2, hyk⟩ := (hyp.later (hl2.trans hb)).at_ hk
      have zb := World.block_lt_of_cell? _ _ e2
      have Hr := Lib.hid (rev_drop hk)
      rw [ek]
      have hk0 : (0 : Int) ≤ (k : Int) := by omega
      have hk1 : (k : Int) < (ys.length : Int) := by omega
      have dk : decide ((k : Int) ≥ 0) = true := by simp
      have vk : IntKind.i64.wrap ((k : Int) - 1) = (k : Int) - 1 := IntWalk.i64_in _ (by omega)
      generalize ys[k] = y at *
      obtain ⟨lot, pa, pc', parts⟩ := y
      simp only [] at e1 e2 hyk Hr
      clear hyk
      have Ho := Lib.hid ho
      clear ho
      go_upto_region 6 with (at_builtin; refine wpList_append_rec slt_ply py_len py_one rfl (.tmp 23) (.tmp 28) rfl (base := w2.heap.size) (l := acc) rfl (OwnR.alloc Ho.out _) (A := some ⟨wr.heap.size, 0, none⟩) (c := 1) [⟨lot, pa, pc', parts⟩] rfl (by intro h; cases h) (SrcAt.blk (cs := #[.int .i64 lot, .slice pa parts.length pc']) (by repeat' (with_reducible first | assumption | (refine Blk.newAt ?_; simp; done) | refine Blk.alloc ?_ _ | refine Blk.drew ?_ | refine Blk.drewN ?_ _ | refine Blk.later ?_ (by assumption)))) (by simp; omega) (by have := hb.size; simp; omega) ?_; intro A3 c3' w3 ho3 hg3)
      have hl3 : Later w2 w3 := Later.grown (hb.alloc _) hg3 (fun g hg => (World.ownsRow.lt Ho.out g hg).1)
      have Ho3 := Lib.hid ho3
      clear hg3 ho3
      simp only [List.length_append, List.length_singleton] at Ho3
      go_wp2
      go_roundw
      case rel => exact ⟨k, acc ++ [⟨lot, pa, pc', parts⟩], by omega, by go_num, by rw [Hacc.out, Hr.out], Ho3.out, hl3⟩
      case measure => simp [intOf]
    · have hm0 : m = 0 := by omega
      subst hm0
      have Hacc2 := Lib.hid (show acc = ys.reverse by rw [Hacc.out, List.drop_zero])
      obtain ⟨bA, bc, eA, _, _, _⟩ := ho.form py_len
      subst eA
      have hPb : Plys wr bA acc := (OwnR.list (ok := PyOk) py_len ho (fun y hy => by
          rw [Hacc2.out, List.mem_reverse] at hy
          obtain ⟨i, hi, rfl⟩ := List.getElem_of_mem hy
          obtain ⟨_, _, _, _, _, h⟩ := (hyp.later (hl2.trans hb)).at_ hi
          exact h)).2.2.2
      clear ho
      have hlen : acc.length = ys.length := by rw [Hacc2.out, List.length_reverse]
      have hlw := hl2.trans hb
      have D3 := D2.later hb
      have k0 : wr.cell? ⟨w.heap.size, 0, none⟩ = some (.int .i64 len) := D3.cell 0
      have k1 : wr.cell? ⟨w.heap.size, 1, none⟩ = some (.int .i64 wd) := D3.cell 1
      have k2 : wr.cell? ⟨w.heap.size, 2, none⟩ = some (.int .i64 rx) := D3.cell 2
      have k3 : wr.cell? ⟨w.heap.size, 3, none⟩ = some (.int .i64 ry) := D3.cell 3
      have k4 : wr.cell? ⟨w.heap.size, 4, none⟩ = some (.slice s1 sz.length c1) := D3.cell 4
      have k5 : wr.cell? ⟨w.heap.size, 5, none⟩ = some (.slice s2 pl.length c2) := D3.cell 5
      have k6 : wr.cell? ⟨w.heap.size, 6, none⟩ = some (.slice qa ps.length qc) := D3.cell 6
      have k7 : wr.cell? ⟨w.heap.size, 7, none⟩ = some (.slice ra rs.length rc) := D3.cell 7
      have k8 : wr.cell? ⟨w.heap.size, 8, none⟩ = some (.slice la lots.length lc) := D3.cell 8
      have k9 : wr.cell? ⟨w.heap.size, 9, none⟩ = some (.slice aa plies.length ac) := D3.cell 9
      have zk := D3.lt
      have HA := Lib.hid (fun W (hW : Later wr W) => HO.out YA yc ys W (hlw.trans hW) (fun z h => h) (Nat.le_refl _) (hyp.later (hlw.trans hW)))
      have HB := Lib.hid (fun W (hW : Later wr W) => by
        have h := HO.out bA bc acc W (hlw.trans hW) (fun z h => by rw [Hacc2.out, List.mem_reverse] at h; exact h) (by omega) (Plys.later hPb hW)
        rw [Hacc2.out] at h
        rw [(Hrev.out).1] at h
        exact h)
      have Hiff := Lib.hid Hrev.out.2
      clear Hrev HO
      have hle : acc.length = acc.length := rfl
      generalize accR len wd ps rs lots ys = R1 at *
      generalize (accR len wd ps rs lots ys.reverse).2 = e2 at *
      obtain ⟨⟨bt, bp, bd, bw, bs⟩, e1⟩ := R1
      simp only [List.length_reverse] at HA HB Hiff
      have Hlen := Lib.hid hlen
      clear hlen hle
      rw [Hlen.out]
      have dk : decide ((0 : Int) - 1 ≥ 0) = false := by decide
      have hc1 : ((e1 == 0) == (e2 == 0)) = true := by
        by_cases h1 : e1 = 0
        · have h2 := Hiff.out.2 h1
          simp [h1, h2]
        · have h2 : e2 ≠ 0 := fun h => h1 (Hiff.out.1 h)
          have j1 : (e1 == 0) = false := by simpa using h1
          have j2 : (e2 == 0) = false := by simpa using h2
          rw [j1, j2]; rfl
      go_upto_region 9 with (first | (go_at_call 20; (with_reducible refine (HA.out _ (by repeat' (with_reducible first | exact Later.refl _ | assumption | refine Later.drew ?_ | refine Later.drewN ?_ _ | refine Later.alloc ?_ _ | refine Later.put ?_ (by omega) _ | refine Later.trans ?_ (by assumption)))).mono ?_); rintro e w4 ⟨rfl, hb4⟩))
      refine name_world (fun W5 hW5 => ?_)
      have hl45 : Later w4 W5 := by rw [hW5]; exact (by repeat' (with_reducible first | exact Later.refl _ | assumption | refine Later.drew ?_ | refine Later.drewN ?_ _ | refine Later.alloc ?_ _ | refine Later.put ?_ (by omega) _ | refine Later.trans ?_ (by assumption)))
      have hl5 : Later wr W5 := by
        have : Later wr w4 := (by repeat' (with_reducible first | exact Later.refl _ | assumption | refine Later.drew ?_ | refine Later.drewN ?_ _ | refine Later.alloc ?_ _ | refine Later.put ?_ (by omega) _ | refine Later.trans ?_ (by assumption)))
        exact this.trans hl45
      have B1 : Blk W5 w4.heap.size 58 #[.int .i64 bt, .int .i64 bp, .int .i64 bd, .int .i64 bw, .int .i64 bs] := by rw [hW5]; exact (by repeat' (with_reducible first | assumption | (refine Blk.newAt ?_; simp; done) | refine Blk.alloc ?_ _ | refine Blk.drew ?_ | refine Blk.drewN ?_ _ | refine Blk.later ?_ (by assumption)))
      have D4 := D3.later hl5
      clear hW5 hb4 hl45 k0 k1 k2 k3 k4 k5 k6 k7 k8 k9 zk
      generalize w4.heap.size = g1 at *
      have k0 : W5.cell? ⟨w.heap.size, 0, none⟩ = some (.int .i64 len) := D4.cell 0
      have k1 : W5.cell? ⟨w.heap.size, 1, none⟩ = some (.int .i64 wd) := D4.cell 1
      have k2 : W5.cell? ⟨w.heap.size, 2, none⟩ = some (.int .i64 rx) := D4.cell 2
      have k3 : W5.cell? ⟨w.heap.size, 3, none⟩ = some (.int .i64 ry) := D4.cell 3
      have k4 : W5.cell? ⟨w.heap.size, 4, none⟩ = some (.slice s1 sz.length c1) := D4.cell 4
      have k5 : W5.cell? ⟨w.heap.size, 5, none⟩ = some (.slice s2 pl.length c2) := D4.cell 5
      have k6 : W5.cell? ⟨w.heap.size, 6, none⟩ = some (.slice qa ps.length qc) := D4.cell 6
      have k7 : W5.cell? ⟨w.heap.size, 7, none⟩ = some (.slice ra rs.length rc) := D4.cell 7
      have k8 : W5.cell? ⟨w.heap.size, 8, none⟩ = some (.slice la lots.length lc) := D4.cell 8
      have k9 : W5.cell? ⟨w.heap.size, 9, none⟩ = some (.slice aa plies.length ac) := D4.cell 9
      have zk := D4.lt
      go_upto_region 10 with (first | (go_at_call 20; (with_reducible refine (HB.out _ (hl5.trans (by repeat' (with_reducible first | exact Later.refl _ | assumption | refine Later.drew ?_ | refine Later.drewN ?_ _ | refine Later.alloc ?_ _ | refine Later.put ?_ (by omega) _ | refine Later.trans ?_ (by assumption))))).mono ?_); rintro e w6 ⟨rfl, hb6⟩))
      refine name_world (fun W7 hW7 => ?_)
      have hl67 : Later w6 W7 := by rw [hW7]; exact (by repeat' (with_reducible first | exact Later.refl _ | assumption | refine Later.drew ?_ | refine Later.drewN ?_ _ | refine Later.alloc ?_ _ | refine Later.put ?_ (by omega) _ | refine Later.trans ?_ (by assumption)))
      have hl7 : Later W5 W7 := by
        have : Later W5 w6 := (by repeat' (with_reducible first | exact Later.refl _ | assumption | refine Later.drew ?_ | refine Later.drewN ?_ _ | refine Later.alloc ?_ _ | refine Later.put ?_ (by omega) _ | refine Later.trans ?_ (by assumption)))
        exact this.trans hl67
      have B2 : Blk W7 w6.heap.size 58 #[.int .i64 bt, .int .i64 bp, .int .i64 bd, .int .i64 bw, .int .i64 bs] := by rw [hW7]; exact (by repeat' (with_reducible first | assumption | (refine Blk.newAt ?_; simp; done) | refine Blk.alloc ?_ _ | refine Blk.drew ?_ | refine Blk.drewN ?_ _ | refine Blk.later ?_ (by assumption)))
      have B1b := B1.later hl7
      clear hW7 hb6 hl67 k0 k1 k2 k3 k4 k5 k6 k7 k8 k9 zk
      generalize w6.heap.size = g2 at *
      have x0 : W7.cell? ⟨g1, 0, none⟩ = some (.int .i64 bt) := B1b.cell 0
      have x1 : W7.cell? ⟨g1, 1, none⟩ = some (.int .i64 bp) := B1b.cell 1
      have x2 : W7.cell? ⟨g1, 2, none⟩ = some (.int .i64 bd) := B1b.cell 2
      have x3 : W7.cell? ⟨g1, 3, none⟩ = some (.int .i64 bw) := B1b.cell 3
      have x4 : W7.cell? ⟨g1, 4, none⟩ = some (.int .i64 bs) := B1b.cell 4
      have zx := B1b.lt
      have y0 : W7.cell? ⟨g2, 0, none⟩ = some (.int .i64 bt) := B2.cell 0
      have y1 : W7.cell? ⟨g2, 1, none⟩ = some (.int .i64 bp) := B2.cell 1
      have y2 : W7.cell? ⟨g2, 2, none⟩ = some (.int .i64 bd) := B2.cell 2
      have y3 : W7.cell? ⟨g2, 3, none⟩ = some (.int .i64 bw) := B2.cell 3
      have y4 : W7.cell? ⟨g2, 4, none⟩ = some (.int .i64 bs) := B2.cell 4
      have zy := B2.lt
      go_wp2_with (first | (go_at_call 17; (with_reducible refine (HX.out _).mono ?_); rintro e w10 ⟨rfl, hb10⟩))
      go_ret
      exact ⟨rfl, (hlw.trans (hl5.trans hl7)).trans (by repeat' (with_reducible first | exact Later.refl _ | assumption | refine Later.drew ?_ | refine Later.drewN ?_ _ | refine Later.alloc ?_ _ | refine Later.put ?_ (by omega) _ | refine Later.trans ?_ (by assumption)))⟩
end

end Go.Proofs.Ytpiniflhaokkaaa
