/-
  AccountAreas, walked.
-/
import Derived.Test.YtpiniflhaokkaaaZAreR
import Derived.Test.YtpiniflhaokkaaaZRefPl
import Derived.Deep.DeepCutAuto
import Derived.StillTailTactics
namespace Go.Proofs.Ytpiniflhaokkaaa
open Go.RowKit
set_option linter.unusedSimpArgs false
set_option linter.unusedVariables false

theorem slt_rects : SlT Try.prog 34 71 4 := SlT.mk (z := .agg #[.int .i64 0, .int .i64 0, .int .i64 0, .int .i64 0]) (by_ := 32) Try.underlying34 (by kernel_rfl) (by omega) rfl (by omega)
theorem ar_rect (a b c d : Int) (w : World) : (Instr.build 71 #[(0, .int .i64 a), (1, .int .i64 b), (2, .int .i64 c), (3, .int .i64 d)]).run Try.prog w = .ok (.agg #[.int .i64 a, .int .i64 b, .int .i64 c, .int .i64 d]) w := run_build w 71 _ _ (by kernel_rfl)
attribute [local go_sem] ar_rect
set_option maxHeartbeats 8000000 in
set_option maxRecDepth 100000 in
theorem law40_AccountAreas (hex : ∀ W, Calls Try.prog 17 #[] W (Ret (.bool true) W)) (c : C8) (k : Nat) (x : Qd) (w : World) (hc : C8Ok w c) (hk : k ≤ 255) (hx : QdI x) :
    Calls Try.prog 8 #[c.agg, .int .u8 (k : Int), x.agg] w (Ret (.bool true) w) := by
  have HX := Lib.hid hex
  by_cases hok : Ok40 c
  · have HL := Lib.hid (fun W (hW : Later w W) => law40_yes c W (hc.later hW) hok)
    have Ha := Lib.hid (fun ys hys => Ok40.acc hok (ys := ys) hys)
    have Hp := Lib.hid (fun ys hys => Ok40.parts hok (ys := ys) hys)
    have hrs := hc.rs
    have hflw := few8_flaws hok.1
    obtain ⟨a1, a2, a3, a4, a5, a6, a7⟩ := few8_all hok.1
    have HO := Lib.hid (fun S1 S2 P (d1 d2 pc : Nat) ys (C : Option Addr) (cc : Nat) (rs' : List Rl) W (hW : Later w W) (hP : Plys W P ys) (hC : Rolls W C rs') (hn : rs'.length ≤ 6) (h8 : ys.length ≤ 8) (hp : ∀ y ∈ ys, y.parts.length ≤ 6) =>
      account_Of c.qa C c.la S1 S2 P c.qc cc c.lc c.sz.length d1 c.pl.length d2 pc c.len c.wd c.rx c.ry c.ps rs' c.lots ys W (hc.ps.later hW) (fun p hp => by have := a7 p hp; omega) hC (by omega) (hc.lots.later hW) (by omega) hP (by omega) (fun y hy => by have := hp y hy; omega) (by omega) hc.psc.1)
    have HAr := Lib.hid (fun W (hW : Later w W) (hck : ∀ p ∈ c.ps, checkI p = 0) (hA : areaTot c.ps ≤ 2199023255552) => law40_areas c.qa c.qc c.ps W (hc.ps.later hW) (fun p hp => by have := a7 p hp; omega) hck (by omega) hA)
    unfold C8.agg LaidY40 at HL
    unfold C8.agg
    unfold Bal.agg at HO
    generalize (spR c).1 = yl at *
    clear hok hc
    obtain ⟨len, wd, rx, ry, s1, c1, sz, s2, c2, pl, qa, qc, ps, ra, rc, rs, la, lc, lots, aa, ac, plies⟩ := c
    simp only [] at HL Ha Hp HO HAr hrs hflw a1 a2 a3 a4 a5 a6 a7 ⊢
    have Hok := Lib.hid (show ∀ i (h : i < rs.length), RlOk w rs[i] from fun i h => by obtain ⟨_, _, _, _, _, _, _, _, _, _, ho⟩ := hrs.at_ h; exact ho)
    have Hx := Lib.hid hx
    have Hflw := Lib.hid hflw
    obtain ⟨xa, xb, xc, xd⟩ := x
    unfold Qd.agg
    simp only [] at Hx ⊢
    have hxi : I64 xa ∧ I64 xb := ⟨hx.1, hx.2.1⟩
    unfold I64 at hxi
    clear hx hflw
    go_enter Try.func8, Try.ntmps8
    go_upto_region 1 with fail
    refine name_world (fun W1 hW1 => ?_)
    have hl1 : Later w W1 := by rw [hW1]; exact (by repeat' (with_reducible first | exact Later.refl _ | assumption | refine Later.drew ?_ | refine Later.drewN ?_ _ | refine Later.alloc ?_ _ | refine Later.put ?_ (by omega) _ | refine Later.trans ?_ (by assumption)))
    have D1 : Blk W1 w.heap.size 31 #[.int .i64 len, .int .i64 wd, .int .i64 rx, .int .i64 ry, .slice s1 sz.length c1, .slice s2 pl.length c2, .slice qa ps.length qc, .slice ra rs.length rc, .slice la lots.length lc, .slice aa plies.length ac] := by rw [hW1]; exact (by repeat' (with_reducible first | assumption | (refine Blk.newAt ?_; simp; done) | refine Blk.alloc ?_ _ | refine Blk.drew ?_ | refine Blk.drewN ?_ _ | refine Blk.later ?_ (by assumption)))
    have DX : Blk W1 (w.heap.size + 1) 71 #[.int .i64 xa, .int .i64 xb, .int .i64 xc, .int .i64 xd] := by rw [hW1]; exact (by repeat' (with_reducible first | assumption | (refine Blk.newAt ?_; simp; done) | refine Blk.alloc ?_ _ | refine Blk.drew ?_ | refine Blk.drewN ?_ _ | refine Blk.later ?_ (by assumption)))
    clear hW1
    have k0 : W1.cell? ⟨w.heap.size, 0, none⟩ = some (.int .i64 len) := D1.cell 0
    have k1 : W1.cell? ⟨w.heap.size, 1, none⟩ = some (.int .i64 wd) := D1.cell 1
    have k2 : W1.cell? ⟨w.heap.size, 2, none⟩ = some (.int .i64 rx) := D1.cell 2
    have k3 : W1.cell? ⟨w.heap.size, 3, none⟩ = some (.int .i64 ry) := D1.cell 3
    have k4 : W1.cell? ⟨w.heap.size, 4, none⟩ = some (.slice s1 sz.length c1) := D1.cell 4
    have k5 : W1.cell? ⟨w.heap.size, 5, none⟩ = some (.slice s2 pl.length c2) := D1.cell 5
    have k6 : W1.cell? ⟨w.heap.size, 6, none⟩ = some (.slice qa ps.length qc) := D1.cell 6
    have k7 : W1.cell? ⟨w.heap.size, 7, none⟩ = some (.slice ra rs.length rc) := D1.cell 7
    have k8 : W1.cell? ⟨w.heap.size, 8, none⟩ = some (.slice la lots.length lc) := D1.cell 8
    have k9 : W1.cell? ⟨w.heap.size, 9, none⟩ = some (.slice aa plies.length ac) := D1.cell 9
    have zk := D1.lt
    go_upto_region 2 with (first | (go_at_call 21; (with_reducible refine (HL.out _ hl1).mono ?_); rintro e w2 ⟨S1, d1, S2, d2, P, pc, ys, bt, bp, bd, bw, bs, rfl, hB, hys, h8, hpc, hpm, hP, hb2⟩))
    obtain ⟨ha1, ha2, ha3⟩ := Ha.out ys hys
    have hpr := Hp.out ys hys
    have hbd := bal_bd ha2 ha3 h8 hpr
    have hck := (ckPolys_zero ha3).1
    obtain ⟨hAB, hwd, _, _, _, hl0, hl1', hw0, hw1⟩ := acc_parts ha2
    have hat : areaTot ps ≤ 2199023255552 := by
      have := areas_cover ha2 ha3
      have := two_bd (a := 2 * len) (b := wd) (M := 2097152) (N := 1048576) (by omega) ⟨hw0, hw1⟩ (by omega)
      omega
    have hat0 := (areaTot_bd ps 0).1
    have hat1 := areaTot_bd ps 0
    have hsum : bp + bd = areaTot ps * (ys.length : Int) := by
      have h := hitA_both rs ps ys
      have e1 : hitA false rs ps ys = bp := congrArg Bal.p hB
      have e2 : hitA true rs ps ys = bd := congrArg Bal.d hB
      omega
    have hroll : ∀ r ∈ rs, rollI r = 0 := by
      obtain ⟨a, _, _, _⟩ := scheck_iff.1 ha2
      obtain ⟨_, b, _, _⟩ := cloth_zero a
      exact (chkRolls_zero b).2.1
    have HArp := Lib.hid (fun W (hW : Later w W) => HAr.out W hW (fun p hp => (hck p hp).1) hat)
    have Hroll := Lib.hid hroll
    have HCl := Lib.hid (fun (C : Option Addr) (cc : Nat) W (hW : Later w W) (hP : Plys W P ys) (hC : Rolls W C (rs.map bare)) => by
      have h := HO.out S1 S2 P d1 d2 pc ys C cc (rs.map bare) W hW hP hC (by rw [List.length_map]; omega) h8 hpr
      rw [((like_bare rs).acc (fun r hr => (rolls_bare hroll r hr).1) (by rw [ha1])).1, List.length_map] at h
      exact h)
    have HWo := Lib.hid (fun (ws : List Rl) (L : Like rs ws) (hr : ∀ r ∈ ws, rollI r = 0) (C : Option Addr) (cc : Nat) W (hW : Later w W) (hP : Plys W P ys) (hC : Rolls W C ws) => by
      have h := HO.out S1 S2 P d1 d2 pc ys C cc ws W hW hP hC (by rw [L.len]; omega) h8 hpr
      rw [(L.acc hr (by rw [ha1])).1, L.len] at h
      exact h)
    have Hbc := Lib.hid (bal_clean (like_bare rs) (rolls_bare hroll) ha2)
    have Hbw := Lib.hid (fun (ws : List Rl) (L : Like rs ws) (hr : ∀ r ∈ ws, rollI r = 0) hm => show (balR ws ps ys).p ≤ bp ∧ (balR ws ps ys).t = bt ∧ (balR ws ps ys).w = bw from by
      have h1 := bal_worse L hr hm ha2
      obtain ⟨_, h2, h3⟩ := L.acc hr (by rw [ha1] : (accR len wd ps rs lots ys).2 = 0)
      rw [hB] at h1 h2 h3
      exact ⟨h1, h2, h3⟩)
    rw [hB] at hbd
    simp only [] at hbd
    obtain ⟨⟨t1, t2⟩, ⟨u1, u2⟩, ⟨p1, p2⟩, ⟨q1, q2⟩, hw⟩ := hbd
    have hmul := two_bd (a := areaTot ps) (b := (ys.length : Int)) (M := 2199023255552) (N := 8) (by omega) (by omega) (by omega)
    clear ha1 ha2 ha3 hB hys Ha Hp HL HO HAr hAB hwd hpr hck hroll hat1 hw
    generalize areaTot ps = na at *
    have Hsum := Lib.hid hsum
    have hsum2 : (bp + bd != na * (ys.length : Int)) = false := by simp [hsum]
    clear hsum
    go_upto_region 4 with fail
    refine name_world (fun W3 hW3 => ?_)
    have hl3 : Later w2 W3 := by rw [hW3]; exact (by repeat' (with_reducible first | exact Later.refl _ | assumption | refine Later.drew ?_ | refine Later.drewN ?_ _ | refine Later.alloc ?_ _ | refine Later.put ?_ (by omega) _ | refine Later.trans ?_ (by assumption)))
    have D3 : Blk W3 w2.heap.size 39 #[.int .i64 len, .int .i64 wd, .int .i64 rx, .int .i64 ry, .slice S1 sz.length d1, .slice S2 pl.length d2, .slice P ys.length pc] := by rw [hW3]; exact (by repeat' (with_reducible first | assumption | (refine Blk.newAt ?_; simp; done) | refine Blk.alloc ?_ _ | refine Blk.drew ?_ | refine Blk.drewN ?_ _ | refine Blk.later ?_ (by assumption)))
    have D4 : Blk W3 (w2.heap.size + 1) 58 #[.int .i64 bt, .int .i64 bp, .int .i64 bd, .int .i64 bw, .int .i64 bs] := by rw [hW3]; exact (by repeat' (with_reducible first | assumption | (refine Blk.newAt ?_; simp; done) | refine Blk.alloc ?_ _ | refine Blk.drew ?_ | refine Blk.drewN ?_ _ | refine Blk.later ?_ (by assumption)))
    have D1b := (D1.later hb2).later hl3
    have DXb := (DX.later hb2).later hl3
    have hlw := (hl1.trans hb2).trans hl3
    have hP3 := Plys.later hP hl3
    clear hW3 k0 k1 k2 k3 k4 k5 k6 k7 k8 k9 zk hb2 hl1 hl3 hP D1 DX
    generalize w2.heap.size + 1 = g4 at *
    generalize w2.heap.size = g3 at *
    have k0 : W3.cell? ⟨w.heap.size, 0, none⟩ = some (.int .i64 len) := D1b.cell 0
    have k1 : W3.cell? ⟨w.heap.size, 1, none⟩ = some (.int .i64 wd) := D1b.cell 1
    have k2 : W3.cell? ⟨w.heap.size, 2, none⟩ = some (.int .i64 rx) := D1b.cell 2
    have k3 : W3.cell? ⟨w.heap.size, 3, none⟩ = some (.int .i64 ry) := D1b.cell 3
    have k4 : W3.cell? ⟨w.heap.size, 4, none⟩ = some (.slice s1 sz.length c1) := D1b.cell 4
    have k5 : W3.cell? ⟨w.heap.size, 5, none⟩ = some (.slice s2 pl.length c2) := D1b.cell 5
    have k6 : W3.cell? ⟨w.heap.size, 6, none⟩ = some (.slice qa ps.length qc) := D1b.cell 6
    have k7 : W3.cell? ⟨w.heap.size, 7, none⟩ = some (.slice ra rs.length rc) := D1b.cell 7
    have k8 : W3.cell? ⟨w.heap.size, 8, none⟩ = some (.slice la lots.length lc) := D1b.cell 8
    have k9 : W3.cell? ⟨w.heap.size, 9, none⟩ = some (.slice aa plies.length ac) := D1b.cell 9
    have zk := D1b.lt
    go_upto_region 5 with (first | (go_at_call 23; (with_reducible refine (HArp.out _ (hlw.trans (by repeat' (with_reducible first | exact Later.refl _ | assumption | refine Later.drew ?_ | refine Later.drewN ?_ _ | refine Later.alloc ?_ _ | refine Later.put ?_ (by omega) _ | refine Later.trans ?_ (by assumption))))).mono ?_); rintro e w4 ⟨rfl, hb4⟩))
    have hlw4 := hlw.trans hb4
    have D3b := D3.later hb4
    have D4b := D4.later hb4
    have D1c := D1b.later hb4
    have DXc := DXb.later hb4
    have hP4 := Plys.later hP3 hb4
    clear k0 k1 k2 k3 k4 k5 k6 k7 k8 k9 zk D3 D4 D1b DXb hP3 hb4 HArp hlw
    have l6 : w4.cell? ⟨g3, 6, none⟩ = some (.slice P ys.length pc) := D3b.cell 6
    have zl := D3b.lt
    have q1_ : w4.cell? ⟨g4, 1, none⟩ = some (.int .i64 bp) := D4b.cell 1
    have q2_ : w4.cell? ⟨g4, 2, none⟩ = some (.int .i64 bd) := D4b.cell 2
    have zq := D4b.lt
    have v1 : IntKind.i64.wrap (bp + bd) = bp + bd := IntWalk.i64_in _ (by omega)
    have v2 : IntKind.i64.wrap (na * (ys.length : Int)) = na * (ys.length : Int) := IntWalk.i64_in _ (by omega)
    go_upto_region 9 with fail
    clear l6 zl q1_ q2_ zq v1 hsum2
    obtain ⟨m, hm⟩ : ∃ m, m = k % rs.length := ⟨_, rfl⟩
    have Hm := Lib.hid (show rs.length > 0 → ((k : Int).tmod (rs.length : Int) = (m : Int) ∧ (k : Int) % (rs.length : Int) = (m : Int)) from fun h => by
      rw [hm]
      exact ⟨by rw [Int.tmod_eq_emod_of_nonneg (by omega)]; exact (Int.natCast_emod k rs.length).symm, (Int.natCast_emod k rs.length).symm⟩)
    clear hm
    go_loopw [11, 12, 13] (fun cv wv iv wr => ∃ (i : Nat) (ws : List Rl), i ≤ rs.length ∧ iv = .int .i64 i ∧ ArR w4.heap.size wr.heap.size rs ⟨xa, xb, xc, xd⟩ m i i cv wv ws wr ∧ Later w4 wr) (fun _ _ iv _ => rs.length - (intOf iv).toNat)
    case atStart => exact ⟨0, [], by omega, rfl, ArR.start _ _ _ _ _ _, Later.refl _⟩
    case round =>
      obtain ⟨i, ws, hi, rfl, hR, hb⟩ := hrel
      have HR := Lib.hid hR
      clear hR
      have D1d := D1c.later hb
      have DXd := DXc.later hb
      have k7 : wr.cell? ⟨w.heap.size, 7, none⟩ = some (.slice ra rs.length rc) := D1d.cell 7
      have zk := D1d.lt
      by_cases hlt : i < rs.length
      · obtain ⟨hm1, hm2⟩ := Hm.out (by omega)
        obtain ⟨bR, oR, rfl, e0, e1, e2, e3, e4, e5, e6, _⟩ := (hrs.later (hlw4.trans hb)).at_ hlt
        have zR := World.block_lt_of_cell? _ _ e1
        have hi0 : (0 : Int) ≤ (i : Int) := by omega
        have hi1 : (i : Int) < (rs.length : Int) := by omega
        have Hclean := Lib.hid (fun (w : World) (cv wv : Value) (ws : List Rl) (h : ArR w4.heap.size wr.heap.size rs ⟨xa, xb, xc, xd⟩ m i i cv wv ws w) {w' : World} {cv' : Value} hg ho hf => ArR.clean (w' := w') (cv' := cv') h hlt hg ho hf)
        have Hworse := Lib.hid (fun (K : Nat) (w : World) (cv wv : Value) (ws : List Rl) (h : ArR w4.heap.size K rs ⟨xa, xb, xc, xd⟩ m (i + 1) i cv wv ws w) {w' : World} {wv' : Value} {A : Option Addr} {c : Nat} hg ho hf hr hK => ArR.worse (w' := w') (wv' := wv') (A := A) (c := c) h hlt hg ho hf hr hK)
        have hf6 := Hflw.out _ (List.getElem_mem hlt)
        have hri := Hok.out i hlt
        have He6 := Lib.hid (by obtain ⟨_, _, e, _, _, _, _, _, _, h, _⟩ := (hrs.later hlw4).at_ hlt; cases e; exact h : w4.cell? ⟨bR, oR + i * 7 + 6, none⟩ = some (.slice (rs[i]).fa (rs[i]).fl.length (rs[i]).fc))
        have hfA : (rs[i]).fa = none → (rs[i]).fl.length = 0 := fun h => by
          rcases Nat.eq_zero_or_pos (rs[i]).fl.length with h0 | h0
          · exact h0
          · obtain ⟨b, o, e, _⟩ := hri.2.2.2.1 h0
            rw [h] at e; cases e
        have Hsrc := Lib.hid (SrcAt.qds hri.2.2.2.1)
        have HfA := Lib.hid hfA
        clear hri hfA
        generalize rs[i] = r at *
        obtain ⟨rid, rwd, rln, rtl, rta, rtb, rfa, rfc, rfl_⟩ := r
        simp only [] at e0 e1 e2 e3 e4 e5 e6 hf6 Hsrc HfA He6
        go_upto_region 13 with fail
        refine name_world (fun W11 hW11 => ?_)
        have hl11 : Later wr W11 := by rw [hW11]; exact (by repeat' (with_reducible first | exact Later.refl _ | assumption | refine Later.drew ?_ | refine Later.drewN ?_ _ | refine Later.alloc ?_ _ | refine Later.put ?_ (by omega) _ | refine Later.trans ?_ (by assumption)))
        have D11 : Blk W11 wr.heap.size 36 #[.string rid, .int .i64 rwd, .int .i64 rln, .int .i64 rtl, .int .i64 rta, .int .i64 rtb, .slice none 0 0] := by rw [hW11]; exact (by repeat' (with_reducible first | assumption | (refine Blk.newAt ?_; simp; done) | refine Blk.alloc ?_ _ | refine Blk.drew ?_ | refine Blk.drewN ?_ _ | refine Blk.later ?_ (by assumption)))
        clear hW11 e0 e1 e2 e3 e4 e5 e6 k7 zk
        obtain ⟨gr, hgr⟩ : ∃ gr, wr.heap.size = gr := ⟨_, rfl⟩
        rw [hgr] at D11 ⊢
        have r0 : W11.cell? ⟨gr, 0, none⟩ = some (.string rid) := D11.cell 0
        have r1 : W11.cell? ⟨gr, 1, none⟩ = some (.int .i64 rwd) := D11.cell 1
        have r2 : W11.cell? ⟨gr, 2, none⟩ = some (.int .i64 rln) := D11.cell 2
        have r3 : W11.cell? ⟨gr, 3, none⟩ = some (.int .i64 rtl) := D11.cell 3
        have r4 : W11.cell? ⟨gr, 4, none⟩ = some (.int .i64 rta) := D11.cell 4
        have r5 : W11.cell? ⟨gr, 5, none⟩ = some (.int .i64 rtb) := D11.cell 5
        have r6 := D11.cell 6
        have zr := D11.lt
        have fz := D11.frozen 6
        obtain ⟨cl, hcl⟩ : ∃ cl, cl = (rs.take i).map bare := ⟨_, rfl⟩
        have Hcl := Lib.hid hcl
        have hcln : cl.length ≤ 6 := by rw [hcl]; simp; omega
        have hown0 : OwnR wr w4.heap.size 36 7 Rl.cells u11 cl := by rw [hcl]; exact HR.out.cl
        have Hown0 := Lib.hid hown0
        clear hcl hown0
        have hcvb : ∀ g, (u11 : Value).ownBlock = some g → w4.heap.size ≤ g ∧ g < gr := fun g hg => hgr ▸ World.ownsRow.lt HR.out.cl g hg
        have hwvb : ∀ g, (u12 : Value).ownBlock = some g → w4.heap.size ≤ g ∧ g < gr := fun g hg => hgr ▸ World.ownsRow.lt HR.out.wo g hg
        have hwl : ws.length = i := HR.out.ln
        have Hwl := Lib.hid hwl
        have hwl6 : ws.length ≤ 6 := by omega
        clear hwl
        have hgr0 : w4.heap.size ≤ gr := by have := hb.size; omega
        have hg11 : gr < W11.heap.size := D11.lt
        go_upto_region 14 with (at_builtin; refine wpList_append_recf slt_rolls rl_len rl_one rfl (.tmp 55) (.tmp 57) rfl (base := w4.heap.size) (l := cl) rfl (OwnR.alloc (OwnR.later Hown0.out hl11) _) (ad := ⟨W11.heap.size, 0, none⟩) (c := 1) [bare ⟨rid, rwd, rln, rtl, rta, rtb, rfa, rfc, rfl_⟩] rfl (SrcAt.blk (cs := #[.string rid, .int .i64 rwd, .int .i64 rln, .int .i64 rtl, .int .i64 rta, .int .i64 rtb, .slice none 0 0]) (by repeat' (with_reducible first | assumption | (refine Blk.newAt ?_; simp; done) | refine Blk.alloc ?_ _ | refine Blk.drew ?_ | refine Blk.drewN ?_ _ | refine Blk.later ?_ (by assumption)))) (by simp; omega) (by have := (hb.trans hl11).size; simp; omega) ?_; intro A5 c5' w5 ho5 hg5 hf5)
        have R5 := Hclean.out _ _ _ _ ((HR.out.later hl11).later ((Later.refl _).alloc (.cells #[.string rid, .int .i64 rwd, .int .i64 rln, .int .i64 rtl, .int .i64 rta, .int .i64 rtb, .slice none 0 0] 36))) hg5 (by rw [← Hcl.out]; exact ho5) hf5
        have h45 : Later w4 w5 := Later.grown ((hb.trans hl11).alloc _) hg5 (fun g hg => (hcvb g hg).1)
        have K5 : Blk w5 gr 36 #[.string rid, .int .i64 rwd, .int .i64 rln, .int .i64 rtl, .int .i64 rta, .int .i64 rtb, .slice none 0 0] := Blk.grown (w := W11.alloc (.cells #[.string rid, .int .i64 rwd, .int .i64 rln, .int .i64 rtl, .int .i64 rta, .int .i64 rtb, .slice none 0 0] 36)) (by repeat' (with_reducible first | assumption | (refine Blk.newAt ?_; simp; done) | refine Blk.alloc ?_ _ | refine Blk.drew ?_ | refine Blk.drewN ?_ _ | refine Blk.later ?_ (by assumption))) hg5 (fun e => by have := (hcvb gr e.symm).2; omega)
        have hcv5 : (Value.slice A5 (cl ++ [bare ⟨rid, rwd, rln, rtl, rta, rtb, rfa, rfc, rfl_⟩]).length c5').ownBlock ≠ some gr := fun e => by
          rcases hf5 with h | h
          · rw [h] at e; have := (hcvb gr e).2; omega
          · rw [h] at e; injection e with e; simp at e; omega
        have hwv5 : (u12 : Value).ownBlock ≠ some gr := fun e => by have := (hwvb gr e).2; omega
        simp only [List.length_append, List.length_singleton] at R5 hcv5
        have HR5 := Lib.hid R5
        have Hcv5 := Lib.hid hcv5
        have Hwv5 := Lib.hid hwv5
        have hg5z : gr < w5.heap.size := K5.lt
        have hgne : some gr ≠ some w5.heap.size := fun e => by injection e with e; omega
        clear R5 hcv5 hwv5 ho5 hg5 hf5 r0 r1 r2 r3 r4 r5 r6 zr fz Hown0 Hcl D11
        have k7 : w5.cell? ⟨w.heap.size, 7, none⟩ = some (.slice (some ⟨bR, oR, none⟩) rs.length rc) := (D1c.later h45).cell 7
        have zk := (D1c.later h45).lt
        have e6 := h45.cell He6.out
        have zR := World.block_lt_of_cell? _ _ e6
        go_upto_region 15 with (at_builtin; refine wpList_append_rec slt_rects qd4_len qd4_one rfl (.tmp 59) (.tmp 65) rfl (base := w5.heap.size) (l := []) rfl (by repeat' (first | (with_reducible assumption) | (with_reducible refine OwnR.drew ?_) | (refine OwnR.lit [] #[] rfl qd4_len (by simp) (by simp) rfl (by simp); done) | (with_reducible refine OwnR.alloc ?_ _))) (A := rfa) (c := rfc) rfl_ rfl HfA.out (Hsrc.out.later (hlw4.trans (h45.trans (by repeat' (with_reducible first | exact Later.refl _ | assumption | refine Later.drew ?_ | refine Later.drewN ?_ _ | refine Later.alloc ?_ _ | refine Later.put ?_ (by omega) _ | refine Later.trans ?_ (by assumption)))))) (by simp; omega) (by simp) ?_; intro A6 c6' w6 ho6 hg6; have K6 := Blk.grown ((by repeat' (with_reducible first | assumption | (refine Blk.newAt ?_; simp; done) | refine Blk.alloc ?_ _ | refine Blk.drew ?_ | refine Blk.drewN ?_ _ | refine Blk.later ?_ (by assumption))) : Blk _ gr 36 #[.string rid, .int .i64 rwd, .int .i64 rln, .int .i64 rtl, .int .i64 rta, .int .i64 rtb, .slice none 0 0]) hg6 hgne; have kf := K6.frozen 6; have kz := K6.lt; have kc : w6.cell? ⟨gr, 6, none⟩ = some (.slice none 0 0) := K6.cell 6)
        have hl56 : Later w5 w6 := Later.grown ((Later.refl _).alloc _) hg6 (fun g hg => by cases hg; exact Nat.le_refl _)
        simp only [List.nil_append] at ho6
        refine name_world (fun W6 hW6 => ?_)
        have D6 : Blk W6 gr 36 (#[.string rid, .int .i64 rwd, .int .i64 rln, .int .i64 rtl, .int .i64 rta, .int .i64 rtb, .slice A6 rfl_.length c6']) := by rw [hW6]; exact K6.set_ 6 _
        have HR6 := Lib.hid (show ArR w4.heap.size wr.heap.size rs ⟨xa, xb, xc, xd⟩ m (i + 1) i (.slice A5 (cl.length + 1) c5') u12 ws W6 by rw [hW6]; exact ArR.put (HR5.out.later hl56) Hcv5.out Hwv5.out K6)
        have Ho6 := Lib.hid (show OwnR W6 w5.heap.size 71 4 qd4 (.slice A6 rfl_.length c6') rfl_ by rw [hW6]; exact OwnR.past ho6 hg5z)
        have h46 : Later w4 W6 := by rw [hW6]; exact (h45.trans hl56).put hgr0 _
        have hg56 : w5.heap.size ≤ W6.heap.size := by rw [hW6]; simp; exact hl56.size
        clear hW6 ho6 hg6 K6 kf kz kc hl56 HR5 k7 zk e6 zR K5
        have k7 : W6.cell? ⟨w.heap.size, 7, none⟩ = some (.slice (some ⟨bR, oR, none⟩) rs.length rc) := (D1c.later h46).cell 7
        have zk := (D1c.later h46).lt
        have i0 : W6.cell? ⟨w.heap.size + 1, 0, none⟩ = some (.int .i64 xa) := (DXc.later h46).cell 0
        have i1_ : W6.cell? ⟨w.heap.size + 1, 1, none⟩ = some (.int .i64 xb) := (DXc.later h46).cell 1
        have zi := (DXc.later h46).lt
        have r0 : W6.cell? ⟨gr, 0, none⟩ = some (.string rid) := D6.cell 0
        have r1 : W6.cell? ⟨gr, 1, none⟩ = some (.int .i64 rwd) := D6.cell 1
        have r2 : W6.cell? ⟨gr, 2, none⟩ = some (.int .i64 rln) := D6.cell 2
        have r3 : W6.cell? ⟨gr, 3, none⟩ = some (.int .i64 rtl) := D6.cell 3
        have r4 : W6.cell? ⟨gr, 4, none⟩ = some (.int .i64 rta) := D6.cell 4
        have r5 : W6.cell? ⟨gr, 5, none⟩ = some (.int .i64 rtb) := D6.cell 5
        have r6 := D6.cell 6
        have zr := D6.lt
        have fz := D6.frozen 6
        have hKw : wr.heap.size ≤ w5.heap.size := by omega
        go_cut [99] from 68 to 99 (fun v wx => v = .bool (wCond ⟨xa, xb, xc, xd⟩ m i ⟨rid, rwd, rln, rtl, rta, rtb, rfa, rfc, rfl_⟩) ∧ wx = W6)
        case first =>
          have b0 : ¬ (rs.length : Int) = 0 := by omega
          by_cases c1_ : i = m
          · subst c1_
            have b1 : ((i : Int) == (i : Int)) = true := by simp
            by_cases c2_ : 0 ≤ xa
            · have b2 : decide (xa ≥ 0) = true := by simpa using c2_
              have b2' : decide (0 ≤ xa) = true := by simpa using c2_
              by_cases c3_ : 0 ≤ xb
              · have b3 : decide (xb ≥ 0) = true := by simpa using c3_
                have b3' : decide (0 ≤ xb) = true := by simpa using c3_
                by_cases c4_ : xa < rln
                · have b4 : decide (xa < rln) = true := by simpa using c4_
                  by_cases c5_ : xb < rwd
                  · have b5 : decide (xb < rwd) = true := by simpa using c5_
                    go_wp2_with fail
                    go_meet
                    exact ⟨by simp [wCond, c2_, c3_, c4_, c5_]; try omega, rfl⟩
                  · have b5 : decide (xb < rwd) = false := by simpa using c5_
                    go_wp2_with fail
                    go_meet
                    exact ⟨by simp [wCond, c2_, c3_, c4_, c5_]; try omega, rfl⟩
                · have b4 : decide (xa < rln) = false := by simpa using c4_
                  go_wp2_with fail
                  go_meet
                  exact ⟨by simp [wCond, c2_, c3_, c4_]; try omega, rfl⟩
              · have b3 : decide (xb ≥ 0) = false := by simpa using c3_
                have b3' : decide (0 ≤ xb) = false := by simpa using c3_
                go_wp2_with fail
                go_meet
                exact ⟨by simp [wCond, c2_, c3_]; try omega, rfl⟩
            · have b2 : decide (xa ≥ 0) = false := by simpa using c2_
              have b2' : decide (0 ≤ xa) = false := by simpa using c2_
              go_wp2_with fail
              go_meet
              exact ⟨by simp [wCond, c2_]; try omega, rfl⟩
          · have b1 : ((i : Int) == (m : Int)) = false := by simp; omega
            go_wp2_with fail
            go_meet
            exact ⟨by simp [wCond, c1_]; try omega, rfl⟩
        case rest =>
          obtain ⟨rfl, rfl⟩ := hcut
          obtain ⟨bb, hbb⟩ : ∃ bb, wCond ⟨xa, xb, xc, xd⟩ m i ⟨rid, rwd, rln, rtl, rta, rtb, rfa, rfc, rfl_⟩ = bb := ⟨_, rfl⟩
          have Hbb := Lib.hid hbb
          rw [hbb]
          clear hbb
          rcases bb with _ | _
          · have HSr := Lib.hid (fun (W' : World) (g : Nat) (h : SrcAt W' (some ⟨g, 0, none⟩) (#[.string rid, .int .i64 rwd, .int .i64 rln, .int .i64 rtl, .int .i64 rta, .int .i64 rtb, .slice A6 rfl_.length c6'] : Array Value).toList) => show SrcAt W' (some ⟨g, 0, none⟩) ([withFl ⟨rid, rwd, rln, rtl, rta, rtb, rfa, rfc, rfl_⟩ A6 c6' rfl_].flatMap Rl.cells) from h)
            have Hfl := Lib.hid (wfl_no Hbb.out)
            have hgW : w5.heap.size ≤ wc.heap.size := by assumption
            have Howo := Lib.hid HR6.out.wo
            go_upto_region 17 with fail
            go_wp2_with (at_builtin; refine wpList_append_recf slt_rolls rl_len rl_one rfl (.tmp 110) (.tmp 112) rfl (base := w4.heap.size) (l := ws) rfl (OwnR.alloc Howo.out _) (ad := ⟨wc.heap.size, 0, none⟩) (c := 1) [withFl ⟨rid, rwd, rln, rtl, rta, rtb, rfa, rfc, rfl_⟩ A6 c6' rfl_] rfl (HSr.out _ _ (SrcAt.blk (cs := #[.string rid, .int .i64 rwd, .int .i64 rln, .int .i64 rtl, .int .i64 rta, .int .i64 rtb, .slice A6 rfl_.length c6']) (by repeat' (with_reducible first | assumption | (refine Blk.newAt ?_; simp; done) | refine Blk.alloc ?_ _ | refine Blk.drew ?_ | refine Blk.drewN ?_ _ | refine Blk.later ?_ (by assumption))))) (by simp; omega) (by simp; omega) ?_; intro A8 c8' w8 ho8 hg8 hf8)
            have R8 := Hworse.out (wc.heap.size + 1) _ _ _ _ ((HR6.out.mono (by omega)).later ((Later.refl _).alloc (.cells (#[.string rid, .int .i64 rwd, .int .i64 rln, .int .i64 rtl, .int .i64 rta, .int .i64 rtb, .slice A6 rfl_.length c6']) 36))) hg8 (by rw [Hfl.out]; exact ho8) hf8 (by
              have hn : (rfl_ : List Qd).length = rfl_.length := by simp
              rw [Hfl.out, hn]
              exact OwnR.low (OwnR.alloc Ho6.out _) (by omega)) (by simp)
            have h48' : Later w4 w8 := Later.grown (h46.alloc _) hg8 (fun g hg => (hwvb g hg).1)
            have hg8z := hg8.size
            have R9 := R8.mono (K' := w8.heap.size) (by simp at hg8z; omega)
            rw [Hfl.out] at R9
            simp only [List.length_append, List.length_singleton] at R9
            have HR9 := Lib.hid R9
            clear R8 R9 ho8 hg8 hf8
            go_wp2
            go_roundw
            case rel => exact ⟨i + 1, ws ++ [withFl ⟨rid, rwd, rln, rtl, rta, rtb, rfa, rfc, rfl_⟩ A6 c6' rfl_], by omega, by go_num, HR9.out, h48'⟩
            case measure => simp [intOf]; omega
          · go_upto_region 17 with (at_builtin; refine wpList_append_rec slt_rects qd4_len qd4_one rfl (.tmp 101) (.tmp 107) rfl (base := w5.heap.size) (l := rfl_) rfl (OwnR.alloc Ho6.out _) (A := some ⟨wc.heap.size, 0, none⟩) (c := 1) [⟨xa, xb, 1, 1⟩] rfl (by intro h; cases h) (SrcAt.blk (cs := #[.int .i64 xa, .int .i64 xb, .int .i64 1, .int .i64 1]) (by repeat' (with_reducible first | assumption | (refine Blk.newAt ?_; simp; done) | refine Blk.alloc ?_ _ | refine Blk.drew ?_ | refine Blk.drewN ?_ _ | refine Blk.later ?_ (by assumption)))) (by simp; omega) (by simp; omega) ?_; intro A7 c7' w7 ho7 hg7; have K7 := Blk.grown ((by repeat' (with_reducible first | assumption | (refine Blk.newAt ?_; simp; done) | refine Blk.alloc ?_ _ | refine Blk.drew ?_ | refine Blk.drewN ?_ _ | refine Blk.later ?_ (by assumption))) : Blk _ gr 36 (#[.string rid, .int .i64 rwd, .int .i64 rln, .int .i64 rtl, .int .i64 rta, .int .i64 rtb, .slice A6 rfl_.length c6'])) hg7 (fun e => by have := (World.ownsRow.lt Ho6.out _ e.symm).1; omega); have kf := K7.frozen 6; have kz := K7.lt; have kc : w7.cell? ⟨gr, 6, none⟩ = some (.slice A6 rfl_.length c6') := K7.cell 6)
            have R7 := ArR.rect (HR6.out.later ((Later.refl _).alloc _)) (OwnR.alloc Ho6.out _) hKw hg7
            have h47 : Later w4 w7 := Later.grown (h46.alloc _) hg7 (fun g hg => by have := (World.ownsRow.lt Ho6.out _ hg).1; omega)
            simp only [List.length_append, List.length_singleton] at ho7
            refine name_world (fun W7 hW7 => ?_)
            have D7 : Blk W7 gr 36 (#[.string rid, .int .i64 rwd, .int .i64 rln, .int .i64 rtl, .int .i64 rta, .int .i64 rtb, .slice A7 (rfl_.length + 1) c7']) := by rw [hW7]; exact K7.set_ 6 _
            have HR7 := Lib.hid (show ArR w4.heap.size wr.heap.size rs ⟨xa, xb, xc, xd⟩ m (i + 1) i (.slice A5 (cl.length + 1) c5') u12 ws W7 by rw [hW7]; exact ArR.put R7 Hcv5.out Hwv5.out K7)
            have Ho7 := Lib.hid (show OwnR W7 w5.heap.size 71 4 qd4 (.slice A7 (rfl_.length + 1) c7') (rfl_ ++ [⟨xa, xb, 1, 1⟩]) by rw [hW7]; exact OwnR.past ho7 hg5z)
            have h48 : Later w4 W7 := by rw [hW7]; exact h47.put hgr0 _
            have hg57 : w5.heap.size ≤ W7.heap.size := by rw [hW7]; have := hg7.size; simp at this ⊢; omega
            clear hW7 ho7 hg7 K7 kf kz kc R7 h47 r0 r1 r2 r3 r4 r5 r6 zr fz k7 zk i0 i1_ zi
            have r0 : W7.cell? ⟨gr, 0, none⟩ = some (.string rid) := D7.cell 0
            have r1 : W7.cell? ⟨gr, 1, none⟩ = some (.int .i64 rwd) := D7.cell 1
            have r2 : W7.cell? ⟨gr, 2, none⟩ = some (.int .i64 rln) := D7.cell 2
            have r3 : W7.cell? ⟨gr, 3, none⟩ = some (.int .i64 rtl) := D7.cell 3
            have r4 : W7.cell? ⟨gr, 4, none⟩ = some (.int .i64 rta) := D7.cell 4
            have r5 : W7.cell? ⟨gr, 5, none⟩ = some (.int .i64 rtb) := D7.cell 5
            have r6 := D7.cell 6
            have zr := D7.lt
            have fz := D7.frozen 6
            have HSr := Lib.hid (fun (W' : World) (g : Nat) (h : SrcAt W' (some ⟨g, 0, none⟩) (#[.string rid, .int .i64 rwd, .int .i64 rln, .int .i64 rtl, .int .i64 rta, .int .i64 rtb, .slice A7 (rfl_.length + 1) c7'] : Array Value).toList) => show SrcAt W' (some ⟨g, 0, none⟩) ([withFl ⟨rid, rwd, rln, rtl, rta, rtb, rfa, rfc, rfl_⟩ A7 c7' (rfl_ ++ [⟨xa, xb, 1, 1⟩])].flatMap Rl.cells) from by
              have e : [withFl ⟨rid, rwd, rln, rtl, rta, rtb, rfa, rfc, rfl_⟩ A7 c7' (rfl_ ++ [⟨xa, xb, 1, 1⟩])].flatMap Rl.cells = (#[.string rid, .int .i64 rwd, .int .i64 rln, .int .i64 rtl, .int .i64 rta, .int .i64 rtb, .slice A7 (rfl_.length + 1) c7']).toList := by simp [withFl, Rl.cells]
              rw [e]; exact h)
            have Hfl := Lib.hid (wfl_yes Hbb.out)
            have hgW : w5.heap.size ≤ W7.heap.size := by assumption
            have Howo := Lib.hid HR7.out.wo
            go_upto_region 17 with fail
            go_wp2_with (at_builtin; refine wpList_append_recf slt_rolls rl_len rl_one rfl (.tmp 110) (.tmp 112) rfl (base := w4.heap.size) (l := ws) rfl (OwnR.alloc Howo.out _) (ad := ⟨W7.heap.size, 0, none⟩) (c := 1) [withFl ⟨rid, rwd, rln, rtl, rta, rtb, rfa, rfc, rfl_⟩ A7 c7' (rfl_ ++ [⟨xa, xb, 1, 1⟩])] rfl (HSr.out _ _ (SrcAt.blk (cs := #[.string rid, .int .i64 rwd, .int .i64 rln, .int .i64 rtl, .int .i64 rta, .int .i64 rtb, .slice A7 (rfl_.length + 1) c7']) (by repeat' (with_reducible first | assumption | (refine Blk.newAt ?_; simp; done) | refine Blk.alloc ?_ _ | refine Blk.drew ?_ | refine Blk.drewN ?_ _ | refine Blk.later ?_ (by assumption))))) (by simp; omega) (by simp; omega) ?_; intro A8 c8' w8 ho8 hg8 hf8)
            have R8 := Hworse.out (W7.heap.size + 1) _ _ _ _ ((HR7.out.mono (by omega)).later ((Later.refl _).alloc (.cells (#[.string rid, .int .i64 rwd, .int .i64 rln, .int .i64 rtl, .int .i64 rta, .int .i64 rtb, .slice A7 (rfl_.length + 1) c7']) 36))) hg8 (by rw [Hfl.out]; exact ho8) hf8 (by
              have hn : ((rfl_ ++ [⟨xa, xb, 1, 1⟩]) : List Qd).length = (rfl_.length + 1) := by simp
              rw [Hfl.out, hn]
              exact OwnR.low (OwnR.alloc Ho7.out _) (by omega)) (by simp)
            have h48' : Later w4 w8 := Later.grown (h48.alloc _) hg8 (fun g hg => (hwvb g hg).1)
            have hg8z := hg8.size
            have R9 := R8.mono (K' := w8.heap.size) (by simp at hg8z; omega)
            rw [Hfl.out] at R9
            simp only [List.length_append, List.length_singleton] at R9
            have HR9 := Lib.hid R9
            clear R8 R9 ho8 hg8 hf8
            go_wp2
            go_roundw
            case rel => exact ⟨i + 1, ws ++ [withFl ⟨rid, rwd, rln, rtl, rta, rtb, rfa, rfc, rfl_⟩ A7 c7' (rfl_ ++ [⟨xa, xb, 1, 1⟩])], by omega, by go_num, HR9.out, h48'⟩
            case measure => simp [intOf]; omega
      · have hie : i = rs.length := by omega
        subst hie
        obtain ⟨Ac, cc', ec, _, _, _⟩ := OwnR.form rl_len HR.out.cl
        obtain ⟨Aw, cw', ew, _, _, _⟩ := OwnR.form rl_len HR.out.wo
        subst ec ew
        have hokr : ∀ i (h : i < rs.length), RlOk wr rs[i] := fun i h => (Hok.out i h).later (hlw4.trans hb)
        have hokw := fun i (h : i < rs.length) => (Hok.out i h).later (hlw4.trans hb)
        obtain ⟨hnc, hRc⟩ := HR.out.cleans hokr rfl
        obtain ⟨hnw, hRw⟩ := HR.out.list hokr Hx.out rfl
        have hL := HR.out.like
        have hro := HR.out.rolls Hroll.out Hflw.out
        have HA1 := Lib.hid (fun W (hW : Later wr W) => HCl.out Ac cc' W (hlw4.trans (hb.trans hW)) (Plys.later hP4 (hb.trans hW)) (hRc.later hW))
        have HA2 := Lib.hid (fun W (hW : Later wr W) => HWo.out ws hL hro Aw cw' W (hlw4.trans (hb.trans hW)) (Plys.later hP4 (hb.trans hW)) (hRw.later hW))
        obtain ⟨bc1, bc2⟩ := Hbc.out
        obtain ⟨bw1, bw2, bw3⟩ := Hbw.out ws hL hro HR.out.sub
        rw [hnc, hnw]
        clear hnc hnw hRc hRw hL hro hokr hokw hlt hi HR
        generalize balR (rs.map bare) ps ys = bc at *
        generalize balR ws ps ys = bv at *
        obtain ⟨ct, cp, cd, cw, cs⟩ := bc
        obtain ⟨vt, vp, vd, vw, vs⟩ := bv
        simp only [] at bc1 bc2 bw1 bw2 bw3 HA1 HA2
        subst bc1 bc2 bw2 bw3
        have D3c := D3b.later hb
        have D4c := D4b.later hb
        have k0 : wr.cell? ⟨w.heap.size, 0, none⟩ = some (.int .i64 len) := D1d.cell 0
        have k1 : wr.cell? ⟨w.heap.size, 1, none⟩ = some (.int .i64 wd) := D1d.cell 1
        have k2 : wr.cell? ⟨w.heap.size, 2, none⟩ = some (.int .i64 rx) := D1d.cell 2
        have k3 : wr.cell? ⟨w.heap.size, 3, none⟩ = some (.int .i64 ry) := D1d.cell 3
        have k4 : wr.cell? ⟨w.heap.size, 4, none⟩ = some (.slice s1 sz.length c1) := D1d.cell 4
        have k5 : wr.cell? ⟨w.heap.size, 5, none⟩ = some (.slice s2 pl.length c2) := D1d.cell 5
        have k6 : wr.cell? ⟨w.heap.size, 6, none⟩ = some (.slice qa ps.length qc) := D1d.cell 6
        have k7 : wr.cell? ⟨w.heap.size, 7, none⟩ = some (.slice ra rs.length rc) := D1d.cell 7
        have k8 : wr.cell? ⟨w.heap.size, 8, none⟩ = some (.slice la lots.length lc) := D1d.cell 8
        have k9 : wr.cell? ⟨w.heap.size, 9, none⟩ = some (.slice aa plies.length ac) := D1d.cell 9
        have zk := D1d.lt
        have l0 : wr.cell? ⟨g3, 0, none⟩ = some (.int .i64 len) := D3c.cell 0
        have l1 : wr.cell? ⟨g3, 1, none⟩ = some (.int .i64 wd) := D3c.cell 1
        have l2 : wr.cell? ⟨g3, 2, none⟩ = some (.int .i64 rx) := D3c.cell 2
        have l3 : wr.cell? ⟨g3, 3, none⟩ = some (.int .i64 ry) := D3c.cell 3
        have l4 : wr.cell? ⟨g3, 4, none⟩ = some (.slice S1 sz.length d1) := D3c.cell 4
        have l5 : wr.cell? ⟨g3, 5, none⟩ = some (.slice S2 pl.length d2) := D3c.cell 5
        have l6 : wr.cell? ⟨g3, 6, none⟩ = some (.slice P ys.length pc) := D3c.cell 6
        have zl := D3c.lt
        go_upto_region 19 with (first | (go_at_call 20; (with_reducible refine (HA1.out _ (by repeat' (with_reducible first | exact Later.refl _ | assumption | refine Later.drew ?_ | refine Later.drewN ?_ _ | refine Later.alloc ?_ _ | refine Later.put ?_ (by omega) _ | refine Later.trans ?_ (by assumption)))).mono ?_); rintro e w5 ⟨rfl, hb5⟩))
        refine name_world (fun W5 hW5 => ?_)
        have hl45 : Later w5 W5 := by rw [hW5]; exact (by repeat' (with_reducible first | exact Later.refl _ | assumption | refine Later.drew ?_ | refine Later.drewN ?_ _ | refine Later.alloc ?_ _ | refine Later.put ?_ (by omega) _ | refine Later.trans ?_ (by assumption)))
        have hl5 : Later wr W5 := by
          have : Later wr w5 := (by repeat' (with_reducible first | exact Later.refl _ | assumption | refine Later.drew ?_ | refine Later.drewN ?_ _ | refine Later.alloc ?_ _ | refine Later.put ?_ (by omega) _ | refine Later.trans ?_ (by assumption)))
          exact this.trans hl45
        have B1 : Blk W5 w5.heap.size 58 #[.int .i64 ct, .int .i64 (na * (ys.length : Int)), .int .i64 0, .int .i64 cw, .int .i64 cs] := by rw [hW5]; exact (by repeat' (with_reducible first | assumption | (refine Blk.newAt ?_; simp; done) | refine Blk.alloc ?_ _ | refine Blk.drew ?_ | refine Blk.drewN ?_ _ | refine Blk.later ?_ (by assumption)))
        have D1e := D1d.later hl5
        have D3d := D3c.later hl5
        have D4d := D4c.later hl5
        clear hW5 hb5 hl45 k0 k1 k2 k3 k4 k5 k6 k7 k8 k9 zk l0 l1 l2 l3 l4 l5 l6 zl
        generalize w5.heap.size = g1 at *
        have k0 : W5.cell? ⟨w.heap.size, 0, none⟩ = some (.int .i64 len) := D1e.cell 0
        have k1 : W5.cell? ⟨w.heap.size, 1, none⟩ = some (.int .i64 wd) := D1e.cell 1
        have k2 : W5.cell? ⟨w.heap.size, 2, none⟩ = some (.int .i64 rx) := D1e.cell 2
        have k3 : W5.cell? ⟨w.heap.size, 3, none⟩ = some (.int .i64 ry) := D1e.cell 3
        have k4 : W5.cell? ⟨w.heap.size, 4, none⟩ = some (.slice s1 sz.length c1) := D1e.cell 4
        have k5 : W5.cell? ⟨w.heap.size, 5, none⟩ = some (.slice s2 pl.length c2) := D1e.cell 5
        have k6 : W5.cell? ⟨w.heap.size, 6, none⟩ = some (.slice qa ps.length qc) := D1e.cell 6
        have k7 : W5.cell? ⟨w.heap.size, 7, none⟩ = some (.slice ra rs.length rc) := D1e.cell 7
        have k8 : W5.cell? ⟨w.heap.size, 8, none⟩ = some (.slice la lots.length lc) := D1e.cell 8
        have k9 : W5.cell? ⟨w.heap.size, 9, none⟩ = some (.slice aa plies.length ac) := D1e.cell 9
        have zk := D1e.lt
        have l0 : W5.cell? ⟨g3, 0, none⟩ = some (.int .i64 len) := D3d.cell 0
        have l1 : W5.cell? ⟨g3, 1, none⟩ = some (.int .i64 wd) := D3d.cell 1
        have l2 : W5.cell? ⟨g3, 2, none⟩ = some (.int .i64 rx) := D3d.cell 2
        have l3 : W5.cell? ⟨g3, 3, none⟩ = some (.int .i64 ry) := D3d.cell 3
        have l4 : W5.cell? ⟨g3, 4, none⟩ = some (.slice S1 sz.length d1) := D3d.cell 4
        have l5 : W5.cell? ⟨g3, 5, none⟩ = some (.slice S2 pl.length d2) := D3d.cell 5
        have l6 : W5.cell? ⟨g3, 6, none⟩ = some (.slice P ys.length pc) := D3d.cell 6
        have zl := D3d.lt
        go_upto_region 20 with (first | (go_at_call 20; (with_reducible refine (HA2.out _ (hl5.trans (by repeat' (with_reducible first | exact Later.refl _ | assumption | refine Later.drew ?_ | refine Later.drewN ?_ _ | refine Later.alloc ?_ _ | refine Later.put ?_ (by omega) _ | refine Later.trans ?_ (by assumption))))).mono ?_); rintro e w6 ⟨rfl, hb6⟩))
        refine name_world (fun W7 hW7 => ?_)
        have hl67 : Later w6 W7 := by rw [hW7]; exact (by repeat' (with_reducible first | exact Later.refl _ | assumption | refine Later.drew ?_ | refine Later.drewN ?_ _ | refine Later.alloc ?_ _ | refine Later.put ?_ (by omega) _ | refine Later.trans ?_ (by assumption)))
        have hl7 : Later W5 W7 := by
          have : Later W5 w6 := (by repeat' (with_reducible first | exact Later.refl _ | assumption | refine Later.drew ?_ | refine Later.drewN ?_ _ | refine Later.alloc ?_ _ | refine Later.put ?_ (by omega) _ | refine Later.trans ?_ (by assumption)))
          exact this.trans hl67
        have B2 : Blk W7 w6.heap.size 58 #[.int .i64 vt, .int .i64 vp, .int .i64 vd, .int .i64 vw, .int .i64 vs] := by rw [hW7]; exact (by repeat' (with_reducible first | assumption | (refine Blk.newAt ?_; simp; done) | refine Blk.alloc ?_ _ | refine Blk.drew ?_ | refine Blk.drewN ?_ _ | refine Blk.later ?_ (by assumption)))
        have B1b := B1.later hl7
        have D3e := D3d.later hl7
        have D4e := D4d.later hl7
        clear hW7 hb6 hl67 k0 k1 k2 k3 k4 k5 k6 k7 k8 k9 zk l0 l1 l2 l3 l4 l5 l6 zl
        generalize w6.heap.size = g2 at *
        have x1 : W7.cell? ⟨g1, 1, none⟩ = some (.int .i64 (na * (ys.length : Int))) := B1b.cell 1
        have x2 : W7.cell? ⟨g1, 2, none⟩ = some (.int .i64 0) := B1b.cell 2
        have zx := B1b.lt
        have y0 : W7.cell? ⟨g2, 0, none⟩ = some (.int .i64 vt) := B2.cell 0
        have y1 : W7.cell? ⟨g2, 1, none⟩ = some (.int .i64 vp) := B2.cell 1
        have y3 : W7.cell? ⟨g2, 3, none⟩ = some (.int .i64 vw) := B2.cell 3
        have zy := B2.lt
        have l6 : W7.cell? ⟨g3, 6, none⟩ = some (.slice P ys.length pc) := D3e.cell 6
        have zl := D3e.lt
        have q0_ : W7.cell? ⟨g4, 0, none⟩ = some (.int .i64 vt) := D4e.cell 0
        have q1_ : W7.cell? ⟨g4, 1, none⟩ = some (.int .i64 bp) := D4e.cell 1
        have q3_ : W7.cell? ⟨g4, 3, none⟩ = some (.int .i64 vw) := D4e.cell 3
        have zq := D4e.lt
        have dle : decide (vp ≤ bp) = true := by simpa using bw1
        have s1_ : (na * (ys.length : Int) == na * (ys.length : Int)) = true := by simp
        have s2_ : (vt == vt) = true := by simp
        have s3_ : (vw == vw) = true := by simp
        go_wp2_with (first | (go_at_call 17; (with_reducible refine (HX.out _).mono ?_); rintro e w10 ⟨rfl, hb10⟩))
        go_ret
        exact ⟨rfl, (hlw4.trans (hb.trans (hl5.trans hl7))).trans (by repeat' (with_reducible first | exact Later.refl _ | assumption | refine Later.drew ?_ | refine Later.drewN ?_ _ | refine Later.alloc ?_ _ | refine Later.put ?_ (by omega) _ | refine Later.trans ?_ (by assumption)))⟩
  · have HL := Lib.hid (fun W (hW : Later w W) => law40_no c W (hc.later hW) hok)
    unfold C8.agg at HL ⊢
    unfold Qd.agg
    clear hok
    obtain ⟨len, wd, rx, ry, s1, c1, sz, s2, c2, pl, qa, qc, ps, ra, rc, rs, la, lc, lots, aa, ac, plies⟩ := c
    simp only [] at HL ⊢
    go_enter Try.func8, Try.ntmps8
    go_wp2_with (first | (go_at_call 21; (with_reducible refine (HL.out _ (by repeat' (with_reducible first | exact Later.refl _ | assumption | refine Later.drew ?_ | refine Later.drewN ?_ _ | refine Later.alloc ?_ _ | refine Later.put ?_ (by omega) _ | refine Later.trans ?_ (by assumption)))).mono ?_); rintro e w2 ⟨l0, l1, l2, l3, A1, n1, d1, A2, n2, d2, A3, n3, d3, b0, b1, b2, b3, b4, rfl, hb2⟩) | (go_at_call 17; (with_reducible refine (HX.out _).mono ?_); rintro e w10 ⟨rfl, hb10⟩))
    go_ret
    exact ⟨rfl, (by repeat' (with_reducible first | exact Later.refl _ | assumption | refine Later.drew ?_ | refine Later.drewN ?_ _ | refine Later.alloc ?_ _ | refine Later.put ?_ (by omega) _ | refine Later.trans ?_ (by assumption)))⟩

end Go.Proofs.Ytpiniflhaokkaaa
