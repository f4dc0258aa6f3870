/-
  SpreadBegins, walked.
-/
import Derived.Test.YtdhakoecjmaebaaLawOnc
import Derived.Test.YtdhakoecjmaebaaSameP
import Derived.Test.YtdhakoecjmaebaaStepB
import Derived.Deep.CutBlock
import Derived.Deep.DeepCutAuto
import Derived.StillTailTactics
namespace Go.Proofs.Ytdhakoecjmaebaa
open Go.RowKit
set_option linter.unusedSimpArgs false
set_option linter.unusedVariables false
attribute [local go_sem] ite_min ite_max

/-- The further roll. -/
def moreZ (x : Rl) : Rl := ⟨⟨#[90]⟩, 1 + min (max x.wd 0) 5000, 1 + min (max x.ln 0) 5000, 0, 0, 0, none, 0, []⟩
theorem idB_Z : idB ⟨#[90]⟩ = true := by decide +kernel
theorem moreZ_ok (x : Rl) : rollI (moreZ x) = 0 := by
  have h : baseI (moreZ x) = 0 := by
    unfold baseI
    rw [show (moreZ x).id = ⟨#[90]⟩ from rfl, idB_Z, if_neg (by simp)]
    unfold moreZ
    simp only []
    rw [if_neg (by omega), if_neg (by decide)]
  unfold rollI
  rw [if_neg (by simpa using h)]
  rfl
theorem moreZ_rl (x : Rl) (w : World) : RlOk w (moreZ x) := by
  refine ⟨show (⟨#[90]⟩ : ByteArray).size ≤ maxLen from (by decide), Nat.le_refl _, Nat.zero_le _, fun h => absurd h (by simp [moreZ]), fun q hq => (by cases hq), ?_⟩
  simp only [moreZ, I64]
  omega
set_option maxHeartbeats 8000000 in
set_option maxRecDepth 100000 in
theorem law38_SpreadBegins (hex : ∀ W, Calls Try.prog 6 #[] W (Ret (.bool true) W)) (c : C8) (x : Rl) (lot : Nat) (w : World) (hc : C8Ok w c) (hx : RlOk w x) (hlot : lot ≤ 255) :
    Calls Try.prog 3 #[c.agg, x.agg, .int .u8 (lot : Int)] w (Ret (.bool true) w) := by
  have HX := Lib.hid hex
  by_cases hok : few8 c = true ∧ (spR c).2.2 = 0
  · obtain ⟨hfew, hz⟩ := hok
    obtain ⟨a1, a2, a3, a4, a5, a6, a7⟩ := few8_all hfew
    have HL := Lib.hid (fun W (hW : Later w W) => law38_laid_yes c W (hc.later hW) hfew hz)
    have hf0 : ∀ (A : Option Addr) (k : Nat) (l : List Int), l.length ≤ 6 → few8 { c with aa := A, ac := k, plies := l } = true := by
      intro A k l hl
      unfold few8 at hfew ⊢
      rw [Bool.and_eq_true] at hfew ⊢
      exact ⟨by rw [decide_eq_true_iff]; simp only []; omega, hfew.2⟩
    have hck : ∀ (A : Option Addr) (k : Nat) (l : List Int) (W : World), Later w W → Ints W A l → l.length ≤ k → k ≤ maxLen → (∀ n ∈ l, I64 n) → C8Ok W { c with aa := A, ac := k, plies := l } := fun A k l W hW h1 h2 h3 h4 =>
      ⟨hc.sz.later hW, hc.pl.later hW, hc.ps.later hW, hc.rs.later hW, hc.lots.later hW, h1, hc.szc, hc.plc, hc.psc, hc.rsc, hc.ltc, ⟨h2, h3⟩, hc.i1, hc.i2, hc.i3, hc.i4, hc.il, h4⟩
    have hcn := hc.ia
    have HLs := Lib.hid (fun (k : Nat) (hk : k < c.plies.length) (hpos : 0 < c.plies[k]) (hlast : ∀ i (hi : i < c.plies.length), k < i → c.plies[i] ≤ 0) =>
      show 0 < (spR c).1.length ∧ ∀ (A : Option Addr) (cap : Nat) (W : World), Later w W → Ints W A (c.plies.set k (c.plies[k] - 1)) → c.plies.length ≤ cap → cap ≤ maxLen →
        Calls Try.prog 5 #[C8.agg { c with aa := A, ac := cap, plies := c.plies.set k (c.plies[k] - 1) }] W (fun e w' => ∃ S1 d1 S2 d2 P pc X nx xc ys, e = .returned (.tuple #[.agg #[.int .i64 c.len, .int .i64 c.wd, .int .i64 c.rx, .int .i64 c.ry, .slice S1 c.sz.length d1, .slice S2 c.pl.length d2, .slice P (List.length ys) pc], .slice X nx xc, .bool true]) ∧
          ys.map Py.pl = (spR c).1.dropLast ∧ ys.length ≤ 40 ∧ Plys w' P ys ∧ Later W w') from by
      obtain ⟨s1, s2, s3⟩ := spread_less (show (spreadR c.len c.wd c.ps c.rs c.lots c.plies).2.2 = 0 from hz) hk hpos hlast
      refine ⟨s1, fun A cap W hW hA h1 h2 => ?_⟩
      have hn := hcn _ (List.getElem_mem hk)
      refine (law38_laid_yes _ W (hck A cap _ W hW hA (by rw [List.length_set]; exact h1) h2 (fun n hn' => by
        rcases List.mem_or_eq_of_mem_set hn' with h | h
        · exact hcn n h
        · rw [h]; unfold I64 at hn ⊢; omega)) (hf0 A cap _ (by rw [List.length_set]; omega)) s2).mono fun e w' hp => ?_
      obtain ⟨S1, d1, S2, d2, P, pc, X, xc, ys, e1, e2, e3, _, _, _, _, e4, _, e5⟩ := hp
      exact ⟨S1, d1, S2, d2, P, pc, X, _, xc, ys, e1, e2.trans s3, e3, e4, e5⟩)
    have hmr := spread_more (z := moreZ x) (t := (lot : Int)) (show (spreadR c.len c.wd c.ps c.rs c.lots c.plies).2.2 = 0 from hz) (moreZ_ok x) (by omega) (by omega)
    have HM := Lib.hid (show ∀ (A B : Option Addr) (ka kb : Nat) (W : World), Later w W → Rolls W A (c.rs ++ [moreZ x]) → Ints W B (c.lots ++ [(lot : Int)]) →
        Calls Try.prog 8 #[.agg #[.int .i64 c.len, .int .i64 c.wd, .int .i64 c.rx, .int .i64 c.ry, .slice c.s1 c.sz.length c.c1, .slice c.s2 c.pl.length c.c2], .slice c.qa c.ps.length c.qc, .slice A (c.rs ++ [moreZ x]).length ka, .slice B (c.lots ++ [(lot : Int)]).length kb, .slice c.aa c.plies.length c.ac] W
          (fun e w' => ∃ S1 d1 S2 d2 P pc X nx xc ys, e = .returned (.tuple #[.agg #[.int .i64 c.len, .int .i64 c.wd, .int .i64 c.rx, .int .i64 c.ry, .slice S1 c.sz.length d1, .slice S2 c.pl.length d2, .slice P (List.length ys) pc], .slice X nx xc, .int .i64 0]) ∧ ys.map Py.pl = (spR c).1 ∧ Plys w' P ys ∧ Later W w') from fun A B ka kb W hW hA hB => by
      refine (spread_Spread c.qa A B c.s1 c.s2 c.aa c.qc ka kb c.c1 c.c2 c.ac c.len c.wd c.rx c.ry c.sz c.pl c.ps (c.rs ++ [moreZ x]) (c.lots ++ [(lot : Int)]) c.plies W (fun h => ?_) (hc.sz.later hW) (by omega) (fun h => ?_) (hc.pl.later hW) (by omega) (hc.ps.later hW) (fun p hp => by have := a7 p hp; omega) hA (by simp; omega) hB (by simp; omega) (hc.plies.later hW) (by omega)).mono fun e w' hp => ?_
      · rcases hl : c.sz with _ | ⟨n, l⟩
        · rfl
        · obtain ⟨b, o, e, _⟩ := hc.sz (by rw [hl]; simp)
          rw [h] at e; cases e
      · rcases hl : c.pl with _ | ⟨n, l⟩
        · rfl
        · obtain ⟨b, o, e, _⟩ := hc.pl (by rw [hl]; simp)
          rw [h] at e; cases e
      · rcases hp with ⟨_, S1, d1, S2, d2, P, pc, X, xc, ys, e1, e2, _, _, _, _, _, _, _, _, e3, e4⟩ | ⟨h, _⟩
        · exact ⟨S1, d1, S2, d2, P, pc, X, _, xc, ys, e1, e2.trans hmr.2, (e3 _ (fun b _ _ => rfl)).2.2.1, e4⟩
        · exact absurd hmr.1 h)
    have hpp : ∀ y ∈ (spR c).1, y.2.length ≤ 6 := fun y hy => Nat.le_trans (lotsGo_len (laid_ok hz).2.1 y hy) a3
    have hrs := hc.rs
    have hlots := hc.lots
    have hplies := hc.plies
    have hpa : c.aa = none → c.plies.length = 0 := fun h => by
      rcases Nat.eq_zero_or_pos c.plies.length with h0 | h0
      · exact h0
      · obtain ⟨b, o, e, _⟩ := hc.plies h0
        rw [h] at e; cases e
    have hra : c.ra = none → c.rs.length = 0 := fun h => by
      rcases Nat.eq_zero_or_pos c.rs.length with h0 | h0
      · exact h0
      · obtain ⟨b, o, e, _⟩ := hc.rs h0
        rw [h] at e; cases e
    have hla : c.la = none → c.lots.length = 0 := fun h => by
      rcases Nat.eq_zero_or_pos c.lots.length with h0 | h0
      · exact h0
      · obtain ⟨b, o, e, _⟩ := hc.lots h0
        rw [h] at e; cases e
    unfold C8.agg LaidYes at HL
    unfold C8.agg at HLs ⊢
    clear hfew hc hf0 hck hmr a5 a6 a7 hz
    generalize (spR c).2.1 = xs at *
    generalize (spR c).1 = yl at *
    obtain ⟨len, wd, rx, ry, s1, c1, sz, s2, c2, pl, qa, qc, ps, ra, rc, rs, la, lc, lots, aa, ac, plies⟩ := c
    simp only [] at HL HLs HM hrs hlots hplies hpa hra hla hcn a1 a2 a3 a4 ⊢
    have Hpa := Lib.hid hpa
    have Hra := Lib.hid hra
    have Hla := Lib.hid hla
    clear hpa hra hla
    have Hz := Lib.hid (moreZ_rl x)
    have Hzc := Lib.hid (show (moreZ x).cells = [.string ⟨#[90]⟩, .int .i64 (1 + min (max x.wd 0) 5000), .int .i64 (1 + min (max x.ln 0) 5000), .int .i64 0, .int .i64 0, .int .i64 0, .slice none 0 0] from rfl)
    have hxi : I64 x.wd ∧ I64 x.ln := ⟨hx.2.2.2.2.2.1, hx.2.2.2.2.2.2.1⟩
    generalize moreZ x = z at *
    unfold Rl.agg
    clear hx
    obtain ⟨xid, xwd, xln, xtl, xta, xtb, xfa, xfc, xfl⟩ := x
    simp only [] at hxi Hzc ⊢
    unfold I64 at hxi hcn
    go_enter Try.func3, Try.ntmps3
    go_upto_region 4 with (first | (go_at_call 5; (with_reducible refine (HL.out _ (by repeat' (with_reducible first | exact Later.refl _ | assumption | refine Later.drew ?_ | refine Later.drewN ?_ _ | refine Later.alloc ?_ _ | refine Later.put ?_ (by omega) _ | refine Later.trans ?_ (by assumption)))).mono ?_); rintro e w2 ⟨S1, d1, S2, d2, P, pc, X, xc, ys, rfl, hys, h40, hpc, hpm, hxc, hxm, hP, hX, hb2⟩))
    refine name_world (fun W3 hW3 => ?_)
    have hl3 : Later w2 W3 := by rw [hW3]; exact (by repeat' (with_reducible first | exact Later.refl _ | assumption | refine Later.drew ?_ | refine Later.drewN ?_ _ | refine Later.alloc ?_ _ | refine Later.put ?_ (by omega) _ | refine Later.trans ?_ (by assumption)))
    have hlw : Later w W3 := by
      have : Later w w2 := (by repeat' (with_reducible first | exact Later.refl _ | assumption | refine Later.drew ?_ | refine Later.drewN ?_ _ | refine Later.alloc ?_ _ | refine Later.put ?_ (by omega) _ | refine Later.trans ?_ (by assumption)))
      exact this.trans hl3
    have D3 : Blk W3 w2.heap.size 39 #[.int .i64 len, .int .i64 wd, .int .i64 rx, .int .i64 ry, .slice S1 sz.length d1, .slice S2 pl.length d2, .slice P ys.length pc] := by rw [hW3]; exact (by repeat' (with_reducible first | assumption | (refine Blk.newAt ?_; simp; done) | refine Blk.alloc ?_ _ | refine Blk.drew ?_ | refine Blk.drewN ?_ _ | refine Blk.later ?_ (by assumption)))
    have D1 : Blk W3 w.heap.size 31 #[.int .i64 len, .int .i64 wd, .int .i64 rx, .int .i64 ry, .slice s1 sz.length c1, .slice s2 pl.length c2, .slice qa ps.length qc, .slice ra rs.length rc, .slice la lots.length lc, .slice aa plies.length ac] := Blk.later (Blk.later (by repeat' (with_reducible first | assumption | (refine Blk.newAt ?_; simp; done) | refine Blk.alloc ?_ _ | refine Blk.drew ?_ | refine Blk.drewN ?_ _ | refine Blk.later ?_ (by assumption))) hb2) hl3
    have D2 : Blk W3 (w.heap.size + 1) 36 #[.string xid, .int .i64 xwd, .int .i64 xln, .int .i64 xtl, .int .i64 xta, .int .i64 xtb, .slice xfa xfl.length xfc] := Blk.later (Blk.later (by repeat' (with_reducible first | assumption | (refine Blk.newAt ?_; simp; done) | refine Blk.alloc ?_ _ | refine Blk.drew ?_ | refine Blk.drewN ?_ _ | refine Blk.later ?_ (by assumption))) hb2) hl3
    have hP3 := Plys.later hP hl3
    have Hyn := Lib.hid (show ys.length = yl.length by rw [← hys, List.length_map])
    have HPy := Lib.hid (show ∀ y ∈ ys, y.parts.length ≤ 65536 from fun y hy => by
      have : y.parts.length ≤ 6 := hpp (Py.pl y) (by rw [← hys]; exact List.mem_map_of_mem hy)
      omega)
    clear hW3 hP hX hb2 hpm hxc hxm hl3 HL
    generalize w2.heap.size = g7 at *
    generalize w.heap.size + 1 = g4 at *
    have k0 : W3.cell? ⟨w.heap.size, 0, none⟩ = some (.int .i64 len) := D1.cell 0
    have k1 : W3.cell? ⟨w.heap.size, 1, none⟩ = some (.int .i64 wd) := D1.cell 1
    have k2 : W3.cell? ⟨w.heap.size, 2, none⟩ = some (.int .i64 rx) := D1.cell 2
    have k3 : W3.cell? ⟨w.heap.size, 3, none⟩ = some (.int .i64 ry) := D1.cell 3
    have k4 : W3.cell? ⟨w.heap.size, 4, none⟩ = some (.slice s1 sz.length c1) := D1.cell 4
    have k5 : W3.cell? ⟨w.heap.size, 5, none⟩ = some (.slice s2 pl.length c2) := D1.cell 5
    have k6 : W3.cell? ⟨w.heap.size, 6, none⟩ = some (.slice qa ps.length qc) := D1.cell 6
    have zk := D1.lt
    have k7 : W3.cell? ⟨w.heap.size, 7, none⟩ = some (.slice ra rs.length rc) := D1.cell 7
    have k8 : W3.cell? ⟨w.heap.size, 8, none⟩ = some (.slice la lots.length lc) := D1.cell 8
    have k9 : W3.cell? ⟨w.heap.size, 9, none⟩ = some (.slice aa plies.length ac) := D1.cell 9
    go_upto_region 5 with fail
    refine name_world (fun W4 hW4 => ?_)
    have hl4 : Later W3 W4 := by rw [hW4]; exact (by repeat' (with_reducible first | exact Later.refl _ | assumption | refine Later.drew ?_ | refine Later.drewN ?_ _ | refine Later.alloc ?_ _ | refine Later.put ?_ (by omega) _ | refine Later.trans ?_ (by assumption)))
    have D10 : Blk W4 W3.heap.size 31 #[.int .i64 len, .int .i64 wd, .int .i64 rx, .int .i64 ry, .slice s1 sz.length c1, .slice s2 pl.length c2, .slice qa ps.length qc, .slice ra rs.length rc, .slice la lots.length lc, .slice aa plies.length ac] := by rw [hW4]; exact (by repeat' (with_reducible first | assumption | (refine Blk.newAt ?_; simp; done) | refine Blk.alloc ?_ _ | refine Blk.drew ?_ | refine Blk.drewN ?_ _ | refine Blk.later ?_ (by assumption)))
    clear hW4 k0 k1 k2 k3 k4 k5 k6 k7 k8 k9 zk
    have k9 : W4.cell? ⟨w.heap.size, 9, none⟩ = some (.slice aa plies.length ac) := (D1.later hl4).cell 9
    have zk := (D1.later hl4).lt
    have z10 := D10.lt
    have hne : some W3.heap.size ≠ some W4.heap.size := by intro e; injection e with e; omega
    have Hsrc := Lib.hid (SrcAt.ints ((hplies.later hlw).later hl4))
    go_upto_region 6 with (at_builtin; refine wpList_append_rec slt_ints i1_len i1_one rfl (.tmp 29) (.tmp 31) rfl (base := W4.heap.size) (l := []) rfl (by repeat' (first | (with_reducible assumption) | (with_reducible refine OwnR.drew ?_) | (refine OwnR.lit [] #[] rfl i1_len (by simp) (by simp) rfl (by simp); done) | (with_reducible refine OwnR.alloc ?_ _))) (A := aa) (c := ac) plies rfl Hpa.out (Hsrc.out.later (by repeat' (with_reducible first | exact Later.refl _ | assumption | refine Later.drew ?_ | refine Later.drewN ?_ _ | refine Later.alloc ?_ _ | refine Later.put ?_ (by omega) _ | refine Later.trans ?_ (by assumption)))) (by simp; omega) (by simp) ?_; intro A3 c3' w3 ho3 hg3; have K := Blk.grown ((by repeat' (with_reducible first | assumption | (refine Blk.newAt ?_; simp; done) | refine Blk.alloc ?_ _ | refine Blk.drew ?_ | refine Blk.drewN ?_ _ | refine Blk.later ?_ (by assumption))) : Blk _ W3.heap.size 31 #[.int .i64 len, .int .i64 wd, .int .i64 rx, .int .i64 ry, .slice s1 sz.length c1, .slice s2 pl.length c2, .slice qa ps.length qc, .slice ra rs.length rc, .slice la lots.length lc, .slice aa plies.length ac]) hg3 hne; have kf := K.frozen 9; have kz := K.lt; have kc : w3.cell? ⟨W3.heap.size, 9, none⟩ = some (.slice aa plies.length ac) := K.cell 9)
    refine name_world (fun W5 hW5 => ?_)
    have hl43 : Later W4 w3 := Later.grown (by repeat' (with_reducible first | exact Later.refl _ | assumption | refine Later.drew ?_ | refine Later.drewN ?_ _ | refine Later.alloc ?_ _ | refine Later.put ?_ (by omega) _ | refine Later.trans ?_ (by assumption))) hg3 (by intro g hg; cases hg; simp)
    have hl35 : Later W3 W5 := by rw [hW5]; exact (hl4.trans hl43).put (Nat.le_refl _) _
    have D11 : Blk W5 W3.heap.size 31 #[.int .i64 len, .int .i64 wd, .int .i64 rx, .int .i64 ry, .slice s1 sz.length c1, .slice s2 pl.length c2, .slice qa ps.length qc, .slice ra rs.length rc, .slice la lots.length lc, .slice A3 plies.length c3'] := by rw [hW5]; exact K.set_ 9 _
    have Ho5 := Lib.hid (show OwnR W5 W4.heap.size 3 1 i1 (.slice A3 plies.length c3') plies by rw [hW5]; exact OwnR.past ho3 z10)
    clear hW5 ho3 hg3 K kf kz kc k9 zk hne Hsrc hl43 D10 Hpa
    generalize W4.heap.size = B4 at *
    have p9 : W5.cell? ⟨W3.heap.size, 9, none⟩ = some (.slice A3 plies.length c3') := D11.cell 9
    have z11 := D11.lt
    generalize hg10 : W3.heap.size = g10 at *
    have Hg10 := Lib.hid hg10
    clear hg10
    go_upto_block 0 with fail
    go_cut [7] from 11 to 87 (fun v wx => v = .pointer (some ⟨g7, 0, none⟩) ∧ Later W3 wx)
    case first =>
      go_wp2_with fail
      go_loopw [11] (fun mv wr => ∃ m : Int, -1 ≤ m ∧ m < (plies.length : Int) ∧ mv = .int .i64 m ∧ (∀ i (hi : i < plies.length), m < (i : Int) → plies[i] ≤ 0) ∧ Later W5 wr) (fun mv _ => (intOf mv + 1).toNat)
      case atStart => exact ⟨(plies.length : Int) - 1, by omega, by omega, rfl, fun i hi h => by omega, Later.refl _⟩
      case round =>
        obtain ⟨m, hm0, hm1, rfl, hpos, hb⟩ := hrel
        have Hpos := Lib.hid hpos
        clear hpos
        have D12 := D11.later hb
        have Ho6 := Lib.hid (Ho5.out.later hb)
        clear p9 z11
        have p9 : wr.cell? ⟨g10, 9, none⟩ = some (.slice A3 plies.length c3') := D12.cell 9
        have z11 := D12.lt
        by_cases hm : 0 ≤ m
        · obtain ⟨k, rfl⟩ : ∃ k : Nat, m = (k : Int) := ⟨m.toNat, by omega⟩
          have hk : k < plies.length := by omega
          obtain ⟨g, c4, e4, q1, q2, q3, q4, q5⟩ := Ho6.out.blk i1_len (by omega)
          injection e4 with e4 _ e5
          subst e4 e5
          obtain ⟨b, o, e4, x0⟩ := (Ho6.out.ints2).at_ hk
          cases e4
          rw [Nat.zero_add] at x0
          have zb := World.block_lt_of_cell? _ _ x0
          have fb := q5 k
          have hn := hcn _ (List.getElem_mem hk)
          have HLk := Lib.hid (HLs.out k hk)
          have Hnx := Lib.hid (show plies[k] ≤ 0 → ∀ i (hi : i < plies.length), (k : Int) - 1 < (i : Int) → plies[i] ≤ 0 from fun h i hi h2 => by
            by_cases e : i = k
            · subst e; exact h
            · exact Hpos.out i hi (by omega))
          have hk0 : (0 : Int) ≤ (k : Int) := by omega
          have Hpv := Lib.hid (rfl : plies[k] = plies[k])
          generalize plies[k] = n at *
          by_cases hp : 0 < n
          · have dp : decide (0 < n) = true := by simpa using hp
            have dp' : decide (n > 0) = true := by simpa using hp
            have v1 : IntKind.i64.wrap (n - 1) = n - 1 := IntWalk.i64_in _ (by omega)
            obtain ⟨hy0, hLl⟩ := HLk.out (by rw [Hpv.out]; exact hp) (fun i hi h => Hpos.out i hi (by omega))
            rw [Hpv.out] at hLl
            have HLl := Lib.hid hLl
            clear hLl HLk Hnx
            go_upto_region 10 with fail
            go_still_tail 10, (by kernel_rfl)
            change wpList _ _ _ _ _ wr.drew
            go_upto_region 11 with fail
            refine name_world (fun W7 hW7 => ?_)
            have hl7 : Later W3 W7 := by rw [hW7]; exact ((hl35.trans hb).drew).put (by have := Hg10.out; omega) _
            have D13 : Blk W7 g10 31 #[.int .i64 len, .int .i64 wd, .int .i64 rx, .int .i64 ry, .slice s1 sz.length c1, .slice s2 pl.length c2, .slice qa ps.length qc, .slice ra rs.length rc, .slice la lots.length lc, .slice (some ⟨g, 0, none⟩) plies.length c3'] := by rw [hW7]; exact (D12.drew).past (by omega)
            have Ho7 := Lib.hid (show OwnR W7 B4 3 1 i1 (.slice (some ⟨g, 0, none⟩) plies.length c3') (plies.set k (n - 1)) by rw [hW7]; exact OwnR.setInt (OwnR.drew Ho6.out) k (n - 1))
            clear hW7 p9 z11 x0 zb fb v1
            have hle : (plies.set k (n - 1)).length = plies.length := List.length_set ..
            have HLm := Lib.hid (fun W (hW : Later W7 W) => by
              have h := HLl.out (some ⟨g, 0, none⟩) c3' W (hlw.trans (hl7.trans hW)) (by
                have := Ho7.out
                rw [← hle] at this
                exact this.ints2.later hW) q1 q2
              rw [hle] at h
              exact h)
            clear hle HLl
            have z13 := D13.lt
            have k0 : W7.cell? ⟨g10, 0, none⟩ = some (.int .i64 len) := D13.cell 0
            have k1 : W7.cell? ⟨g10, 1, none⟩ = some (.int .i64 wd) := D13.cell 1
            have k2 : W7.cell? ⟨g10, 2, none⟩ = some (.int .i64 rx) := D13.cell 2
            have k3 : W7.cell? ⟨g10, 3, none⟩ = some (.int .i64 ry) := D13.cell 3
            have k4 : W7.cell? ⟨g10, 4, none⟩ = some (.slice s1 sz.length c1) := D13.cell 4
            have k5 : W7.cell? ⟨g10, 5, none⟩ = some (.slice s2 pl.length c2) := D13.cell 5
            have k6 : W7.cell? ⟨g10, 6, none⟩ = some (.slice qa ps.length qc) := D13.cell 6
            have zk := D13.lt
            have k7 : W7.cell? ⟨g10, 7, none⟩ = some (.slice ra rs.length rc) := D13.cell 7
            have k8 : W7.cell? ⟨g10, 8, none⟩ = some (.slice la lots.length lc) := D13.cell 8
            have k9 : W7.cell? ⟨g10, 9, none⟩ = some (.slice (some ⟨g, 0, none⟩) plies.length c3') := D13.cell 9
            go_upto_region 12 with (first | (go_at_call 5; (with_reducible refine (HLm.out _ (by repeat' (with_reducible first | exact Later.refl _ | assumption | refine Later.drew ?_ | refine Later.drewN ?_ _ | refine Later.alloc ?_ _ | refine Later.put ?_ (by omega) _ | refine Later.trans ?_ (by assumption)))).mono ?_); rintro e w8 ⟨S1', d1', S2', d2', P', pc', X', nx', xc', ys', rfl, hys', h40', hP', hb8⟩))
            refine name_world (fun W9 hW9 => ?_)
            have hl9 : Later w8 W9 := by rw [hW9]; exact (by repeat' (with_reducible first | exact Later.refl _ | assumption | refine Later.drew ?_ | refine Later.drewN ?_ _ | refine Later.alloc ?_ _ | refine Later.put ?_ (by omega) _ | refine Later.trans ?_ (by assumption)))
            have hl39 : Later W3 W9 := hl7.trans (hb8.trans hl9)
            have D14 : Blk W9 w8.heap.size 39 #[.int .i64 len, .int .i64 wd, .int .i64 rx, .int .i64 ry, .slice S1' sz.length d1', .slice S2' pl.length d2', .slice P' ys'.length pc'] := by rw [hW9]; exact (by repeat' (with_reducible first | assumption | (refine Blk.newAt ?_; simp; done) | refine Blk.alloc ?_ _ | refine Blk.drew ?_ | refine Blk.drewN ?_ _ | refine Blk.later ?_ (by assumption)))
            have D3' := D3.later hl39
            clear hW9 k0 k1 k2 k3 k4 k5 k6 k7 k8 k9 zk z13
            have hyl : ys'.length = ys.length - 1 := by
              have := congrArg List.length hys'
              rw [List.length_map, List.length_dropLast, ← Hyn.out] at this
              exact this
            have hy1 : 0 < ys.length := by rw [Hyn.out]; exact hy0
            obtain ⟨bP, oP, rfl, _⟩ := hP3 (by omega)
            have hpt : Plys W9 (some ⟨bP, oP, none⟩) (ys.take ys'.length) := ListAt.take (Plys.later hP3 hl39) _
            have HSm := Lib.hid (fun W (hW : Later W9 W) => by
              have h := ref38_SamePlies P' (some ⟨bP, oP, none⟩) pc' pc ys' (ys.take ys'.length) W (by omega) (by rw [List.length_take]; omega) (Plys.later hP' (hl9.trans hW)) (Plys.later hpt hW) (fun y hy => by
                have hm : y.parts ∈ yl.dropLast.map Prod.snd := by
                  rw [← hys', List.map_map]
                  exact List.mem_map_of_mem (f := Prod.snd ∘ Py.pl) hy
                have hm2 : y.parts ∈ yl.map Prod.snd := by
                  obtain ⟨z, hz1, hz2⟩ := List.mem_map.1 hm
                  rw [← hz2]
                  exact List.mem_map_of_mem (List.dropLast_subset _ hz1)
                rw [← hys, List.map_map] at hm2
                obtain ⟨z, hz1, hz2⟩ := List.mem_map.1 hm2
                have hz3 : z.parts = y.parts := hz2
                rw [← hz3]
                have := HPy.out z hz1
                omega)
              rw [List.length_take, show min ys'.length ys.length = ys'.length by omega, show samePl ys' (ys.take ys'.length) = true from decide_eq_true (by rw [hys', List.map_take, hys, List.dropLast_eq_take, hyl, Hyn.out])] at h
              exact h)
            have m6 : W9.cell? ⟨w8.heap.size, 6, none⟩ = some (.slice P' ys'.length pc') := D14.cell 6
            have l6 : W9.cell? ⟨g7, 6, none⟩ = some (.slice (some ⟨bP, oP, none⟩) ys.length pc) := D3'.cell 6
            have zm := D14.lt
            have zl := D3'.lt
            have hpc' : ys'.length ≤ pc := by omega
            clear hb8 hP' hpt hys' D14 D3'
            obtain ⟨nm, hnm⟩ : ∃ nm, ys'.length = nm := ⟨_, rfl⟩
            have hnm2 : ys.length = nm + 1 := by omega
            rw [hnm] at m6 HSm hpc'
            rw [hnm2] at l6
            have hn40 : nm ≤ 40 := by omega
            clear hnm hnm2 hyl hy1
            have vw : IntKind.i64.wrap (nm : Int) = (nm : Int) := IntWalk.i64_in _ (by omega)
            generalize w8.heap.size = g12 at *
            go_region_held3 (fun w' : World => (∀ a : Addr, (W9.cell? a).isSome = true → w'.cell? a = W9.cell? a) ∧ Later W9 w') (first | assumption | exact keep_call (by assumption) (by assumption) | exact keep_call (by assumption) ((Later.refl _).alloc _) | exact keep_init _) (first | (go_at_call 7; (with_reducible refine (HSm.out _ (by (have hk := (by assumption : _ ∧ Later W9 _).2); exact hk)).mono ?_); rintro e w10 ⟨rfl, hb10⟩))
            all_goals
              rename_i hHw
              go_wp2_with fail
              go_meet
              exact ⟨rfl, hl39.trans hHw.2⟩
          · have dp : decide (0 < n) = false := by simpa using hp
            have dp' : decide (n > 0) = false := by simpa using hp
            go_wp2
            go_roundw
            case rel => exact ⟨(k : Int) - 1, by omega, by omega, by go_num, Hnx.out (by omega), hb.trans (by repeat' (with_reducible first | exact Later.refl _ | assumption | refine Later.drew ?_ | refine Later.drewN ?_ _ | refine Later.alloc ?_ _ | refine Later.put ?_ (by omega) _ | refine Later.trans ?_ (by assumption)))⟩
            case measure => simp [intOf]
        · go_wp2_with fail
          go_meet
          exact ⟨rfl, hl35.trans (hb.trans (by repeat' (with_reducible first | exact Later.refl _ | assumption | refine Later.drew ?_ | refine Later.drewN ?_ _ | refine Later.alloc ?_ _ | refine Later.put ?_ (by omega) _ | refine Later.trans ?_ (by assumption))))⟩
    case rest =>
      obtain ⟨rfl, hcut⟩ := hcut
      clear HLs Ho5 D11 z10 p9 z11 hl35 Hg10 hcn
      have D1c := D1.later hcut
      have D2c := D2.later hcut
      have D3c := D3.later hcut
      have hPc := Plys.later hP3 hcut
      have hlc := hlw.trans hcut
      clear D1 D2 D3 hP3 hcut hlw
      have k0 : wc.cell? ⟨w.heap.size, 0, none⟩ = some (.int .i64 len) := D1c.cell 0
      have k1 : wc.cell? ⟨w.heap.size, 1, none⟩ = some (.int .i64 wd) := D1c.cell 1
      have k2 : wc.cell? ⟨w.heap.size, 2, none⟩ = some (.int .i64 rx) := D1c.cell 2
      have k3 : wc.cell? ⟨w.heap.size, 3, none⟩ = some (.int .i64 ry) := D1c.cell 3
      have k4 : wc.cell? ⟨w.heap.size, 4, none⟩ = some (.slice s1 sz.length c1) := D1c.cell 4
      have k5 : wc.cell? ⟨w.heap.size, 5, none⟩ = some (.slice s2 pl.length c2) := D1c.cell 5
      have k6 : wc.cell? ⟨w.heap.size, 6, none⟩ = some (.slice qa ps.length qc) := D1c.cell 6
      have zk := D1c.lt
      have k7 : wc.cell? ⟨w.heap.size, 7, none⟩ = some (.slice ra rs.length rc) := D1c.cell 7
      have k8 : wc.cell? ⟨w.heap.size, 8, none⟩ = some (.slice la lots.length lc) := D1c.cell 8
      have k9 : wc.cell? ⟨w.heap.size, 9, none⟩ = some (.slice aa plies.length ac) := D1c.cell 9
      have r1 : wc.cell? ⟨g4, 1, none⟩ = some (.int .i64 xwd) := D2c.cell 1
      have r2 : wc.cell? ⟨g4, 2, none⟩ = some (.int .i64 xln) := D2c.cell 2
      have zr := D2c.lt
      have Hsr := Lib.hid (SrcAt.list rl_len (hrs.later hlc))
      have Hsl := Lib.hid (SrcAt.ints (hlots.later hlc))
      go_upto_region 15 with fail
      refine name_world (fun W15 hW15 => ?_)
      have hl15 : Later wc W15 := by rw [hW15]; exact (by repeat' (with_reducible first | exact Later.refl _ | assumption | refine Later.drew ?_ | refine Later.drewN ?_ _ | refine Later.alloc ?_ _ | refine Later.put ?_ (by omega) _ | refine Later.trans ?_ (by assumption)))
      have hg4c := D2c.lt
      have hg7c := D3c.lt
      have hgwc := D1c.lt
      have DM : Blk W15 wc.heap.size 31 #[.int .i64 len, .int .i64 wd, .int .i64 rx, .int .i64 ry, .slice s1 sz.length c1, .slice s2 pl.length c2, .slice qa ps.length qc, .slice ra rs.length rc, .slice la lots.length lc, .slice aa plies.length ac] := by rw [hW15]; exact (by repeat' (with_reducible first | assumption | (refine Blk.newAt ?_; simp; done) | refine Blk.alloc ?_ _ | refine Blk.drew ?_ | refine Blk.drewN ?_ _ | refine Blk.later ?_ (by assumption)))
      clear hW15
      have z15 := DM.lt
      have hgm : wc.heap.size ≤ wc.heap.size := Nat.le_refl _
      obtain ⟨gm, hgm2⟩ : ∃ gm, wc.heap.size = gm := ⟨_, rfl⟩
      rw [hgm2] at DM z15
      have v1 : IntKind.i64.wrap (1 + min (max xwd 0) 5000) = 1 + min (max xwd 0) 5000 := IntWalk.i64_in _ (by omega)
      have v2 : IntKind.i64.wrap (1 + min (max xln 0) 5000) = 1 + min (max xln 0) 5000 := IntWalk.i64_in _ (by omega)
      go_cut [15] from 89 to 106 (fun v wx => v = .pointer (some ⟨gm, 0, none⟩) ∧ ∃ A5 c5, Blk wx gm 31 #[.int .i64 len, .int .i64 wd, .int .i64 rx, .int .i64 ry, .slice s1 sz.length c1, .slice s2 pl.length c2, .slice qa ps.length qc, .slice A5 (rs.length + 1) c5, .slice la lots.length lc, .slice aa plies.length ac] ∧ OwnR wx W15.heap.size 36 7 Rl.cells (.slice A5 (rs ++ [z]).length c5) (rs ++ [z]) ∧ Later wc wx)
      case first =>
        rw [hgm2]
        have hS : ∀ w' : World, Later wc w' → (w'.cell? ⟨w.heap.size, 7, none⟩ = some (.slice ra rs.length rc) ∧ w.heap.size < w'.heap.size) ∧ w'.cell? ⟨g4, 1, none⟩ = some (.int .i64 xwd) ∧ w'.cell? ⟨g4, 2, none⟩ = some (.int .i64 xln) ∧ g4 < w'.heap.size := fun w' h => ⟨⟨h.cell k7, by have := h.size; omega⟩, h.cell r1, h.cell r2, by have := h.size; omega⟩
        refine wp_region_held_drew (S := fun w' : World => (w'.cell? ⟨w.heap.size, 7, none⟩ = some (.slice ra rs.length rc) ∧ w.heap.size < w'.heap.size) ∧ w'.cell? ⟨g4, 1, none⟩ = some (.int .i64 xwd) ∧ w'.cell? ⟨g4, 2, none⟩ = some (.int .i64 xln) ∧ g4 < w'.heap.size) (by kernel_rfl) (hS _ hl15.drew) (fun hHeld => ?_)
        refine take_at (i := 1) (d := 90) (v := ?_) rfl rfl (by kernel_rfl) (by kernel_rfl) (by kernel_rfl) (fun _ _ _ h => h) (by rfl) ?_ (by assumption) ?_
        rotate_left
        · (intro w hSw; (try dsimp only at hSw); go_simp; (try with_reducible rfl))
        simp only [Act.put, List.setIfInBounds_toArray, List.set_cons_zero, List.set_cons_succ]
        refine take_at (i := 2) (d := 91) (v := ?_) rfl rfl (by kernel_rfl) (by kernel_rfl) (by kernel_rfl) (fun _ _ _ h => h) (by rfl) ?_ (by assumption) ?_
        rotate_left
        · (intro w hSw; (try dsimp only at hSw); go_simp; (try with_reducible rfl))
        simp only [Act.put, List.setIfInBounds_toArray, List.set_cons_zero, List.set_cons_succ]
        refine take_at (i := 4) (d := 93) (v := ?_) rfl rfl (by kernel_rfl) (by kernel_rfl) (by kernel_rfl) (fun _ _ _ h => h) (by rfl) ?_ (by assumption) ?_
        rotate_left
        · (intro w hSw; (try dsimp only at hSw); go_simp; (try with_reducible rfl))
        simp only [Act.put, List.setIfInBounds_toArray, List.set_cons_zero, List.set_cons_succ]
        refine take_at (i := 5) (d := 94) (v := ?_) rfl rfl (by kernel_rfl) (by kernel_rfl) (by kernel_rfl) (fun _ _ _ h => h) (by rfl) ?_ (by assumption) ?_
        rotate_left
        · (intro w hSw; (try dsimp only at hSw); go_simp; (try with_reducible rfl))
        simp only [Act.put, List.setIfInBounds_toArray, List.set_cons_zero, List.set_cons_succ]
        refine take_at (i := 6) (d := 95) (v := ?_) rfl rfl (by kernel_rfl) (by kernel_rfl) (by kernel_rfl) (fun _ _ _ h => h) (by rfl) ?_ (by assumption) ?_
        rotate_left
        · (intro w hSw; (try dsimp only at hSw); go_simp; (try with_reducible rfl))
        simp only [Act.put, List.setIfInBounds_toArray, List.set_cons_zero, List.set_cons_succ]
        refine take_at (i := 7) (d := 96) (v := ?_) rfl rfl (by kernel_rfl) (by kernel_rfl) (by kernel_rfl) (fun _ _ _ h => h) (by rfl) ?_ (by assumption) ?_
        rotate_left
        · (intro w hSw; (try dsimp only at hSw); go_simp; (try with_reducible rfl))
        simp only [Act.put, List.setIfInBounds_toArray, List.set_cons_zero, List.set_cons_succ]
        refine take_at (i := 8) (d := 97) (v := ?_) rfl rfl (by kernel_rfl) (by kernel_rfl) (by kernel_rfl) (fun _ _ _ h => h) (by rfl) ?_ (by assumption) ?_
        rotate_left
        · (intro w hSw; (try dsimp only at hSw); go_simp; (try with_reducible rfl))
        simp only [Act.put, List.setIfInBounds_toArray, List.set_cons_zero, List.set_cons_succ]
        refine take_at (i := 9) (d := 98) (v := ?_) rfl rfl (by kernel_rfl) (by kernel_rfl) (by kernel_rfl) (fun _ _ _ h => h) (by rfl) ?_ (by assumption) ?_
        rotate_left
        · (intro w hSw; (try dsimp only at hSw); go_simp; (try with_reducible rfl))
        simp only [Act.put, List.setIfInBounds_toArray, List.set_cons_zero, List.set_cons_succ]
        refine take_at (i := 10) (d := 99) (v := ?_) rfl rfl (by kernel_rfl) (by kernel_rfl) (by kernel_rfl) (fun _ _ _ h => h) (by rfl) ?_ (by assumption) ?_
        rotate_left
        · (intro w hSw; (try dsimp only at hSw); go_simp; (try with_reducible rfl))
        simp only [Act.put, List.setIfInBounds_toArray, List.set_cons_zero, List.set_cons_succ]
        refine take_at (i := 11) (d := 100) (v := ?_) rfl rfl (by kernel_rfl) (by kernel_rfl) (by kernel_rfl) (fun _ _ _ h => h) (by rfl) ?_ (by assumption) ?_
        rotate_left
        · (intro w hSw; (try dsimp only at hSw); go_simp; (try with_reducible rfl))
        simp only [Act.put, List.setIfInBounds_toArray, List.set_cons_zero, List.set_cons_succ]
        refine take_at (i := 12) (d := 101) (v := ?_) rfl rfl (by kernel_rfl) (by kernel_rfl) (by kernel_rfl) (fun _ _ _ h => h) (by rfl) ?_ (by assumption) ?_
        rotate_left
        · (intro w hSw; (try dsimp only at hSw); go_simp; (try with_reducible rfl))
        simp only [Act.put, List.setIfInBounds_toArray, List.set_cons_zero, List.set_cons_succ]
        refine take_at (i := 13) (d := 102) (v := ?_) rfl rfl (by kernel_rfl) (by kernel_rfl) (by kernel_rfl) (fun _ _ _ h => h) (by rfl) ?_ (by assumption) ?_
        rotate_left
        · (intro w hSw; (try dsimp only at hSw); go_simp; (try with_reducible rfl))
        simp only [Act.put, List.setIfInBounds_toArray, List.set_cons_zero, List.set_cons_succ]
        refine take_at (i := 14) (d := 103) (v := ?_) rfl rfl (by kernel_rfl) (by kernel_rfl) (by kernel_rfl) (fun _ _ _ h => h) (by rfl) ?_ (by assumption) ?_
        rotate_left
        · (intro w hSw; (try dsimp only at hSw); go_simp; (try with_reducible rfl))
        simp only [Act.put, List.setIfInBounds_toArray, List.set_cons_zero, List.set_cons_succ]
        have HSS := Lib.hid hS
        have DMd : Blk W15.drew gm 31 #[.int .i64 len, .int .i64 wd, .int .i64 rx, .int .i64 ry, .slice s1 sz.length c1, .slice s2 pl.length c2, .slice qa ps.length qc, .slice ra rs.length rc, .slice la lots.length lc, .slice aa plies.length ac] := DM.drew
        have hszd : W15.drew.heap.size = W15.heap.size := rfl
        clear hHeld
        refine wpAnyH_ready (rs := [0, 15]) (by kernel_rfl) (by simp) (ready_val3 (i := 0) (d := 89) (v := .slice (some ⟨W15.drew.heap.size, 0, none⟩) 0 0) (w' := W15.drew.alloc (.cells #[] 36)) rfl rfl (by rfl) (by go_simp) (hS _ (hl15.drew.alloc _)) ?_ (ready_val3 (i := 15) (d := 104) (v := .slice (some ⟨W15.drew.heap.size, 0, none⟩) 1 1) (w' := W15.drew.alloc (.cells #[.string ⟨#[90]⟩, .int .i64 (1 + min (max xwd 0) 5000), .int .i64 (1 + min (max xln 0) 5000), .int .i64 0, .int .i64 0, .int .i64 0, .slice none 0 0] 36)) rfl rfl (by rfl) (by go_simp) (hS _ (hl15.drew.alloc _)) ?_ AllReadyH.nil))
        · simp only [Act.put, List.setIfInBounds_toArray, List.set_cons_zero, List.set_cons_succ]
          refine wpAnyH_ready (rs := [3, 15]) (by kernel_rfl) (by simp) (ready_app' (i := 3) (d := 92) slt_rolls rl_len rl_one rfl rfl rfl (.tmp 89) (.tmp 91) rfl (base := W15.heap.size) (l := []) rfl (OwnR.lit [] #[] rfl rl_len (by simp) (by simp; try omega) rfl (by simp)) (A := ra) (c := rc) rs rfl Hra.out (Hsr.out.later (by repeat' (with_reducible first | exact Later.refl _ | assumption | refine Later.drew ?_ | refine Later.drewN ?_ _ | refine Later.alloc ?_ _ | refine Later.put ?_ (by omega) _ | refine Later.trans ?_ (by assumption)))) (by simp; omega) (by simp; try omega) (fun A4 c4' w4 ho4 hg4 => ?_) (ready_val3 (i := 15) (d := 104) (v := .slice (some ⟨W15.drew.heap.size + 1, 0, none⟩) 1 1) (w' := (W15.drew.alloc (.cells #[] 36)).alloc (.cells #[.string ⟨#[90]⟩, .int .i64 (1 + min (max xwd 0) 5000), .int .i64 (1 + min (max xln 0) 5000), .int .i64 0, .int .i64 0, .int .i64 0, .slice none 0 0] 36)) rfl rfl (by rfl) (by go_simp) (hS _ ((hl15.drew.alloc _).alloc _)) ?_ AllReadyH.nil))
          · have Wpre := (W15.drew.alloc (.cells #[] 36))
            have L4 : Later wc w4 := Later.grown (by first | exact (hl15.drew.alloc _) | exact ((hl15.drew.alloc _).alloc _)) hg4 (fun g hg => by injection hg with hg; have := hl15.size; simp at hg; omega)
            have K4 : Blk w4 gm 31 #[.int .i64 len, .int .i64 wd, .int .i64 rx, .int .i64 ry, .slice s1 sz.length c1, .slice s2 pl.length c2, .slice qa ps.length qc, .slice ra rs.length rc, .slice la lots.length lc, .slice aa plies.length ac] := Blk.grown (w := W15.drew.alloc (.cells #[] 36)) (by repeat' (with_reducible first | assumption | (refine Blk.newAt ?_; simp; done) | refine Blk.alloc ?_ _ | refine Blk.drew ?_ | refine Blk.drewN ?_ _ | refine Blk.later ?_ (by assumption))) hg4 (fun e => by injection e with e; simp at e; omega)
            have Z4 : W15.heap.size ≤ w4.heap.size := by have := hg4.size; simp at this; omega
            refine ⟨HSS.out _ L4, fun hS4 => ?_⟩
            simp only [Act.put, List.setIfInBounds_toArray, List.set_cons_zero, List.set_cons_succ]
            refine val_at (i := 15) (d := 104) (v := .slice (some ⟨w4.heap.size, 0, none⟩) 1 1) (w' := w4.alloc (.cells #[.string ⟨#[90]⟩, .int .i64 (1 + min (max xwd 0) 5000), .int .i64 (1 + min (max xln 0) 5000), .int .i64 0, .int .i64 0, .int .i64 0, .slice none 0 0] 36)) (by kernel_rfl) rfl rfl (by rfl) (by go_simp) (hS _ (L4.alloc _)) ?_
            obtain ⟨gz, hgz⟩ : ∃ gz, w4.heap.size = gz := ⟨_, rfl⟩
            have SZ : Blk (w4.alloc (.cells #[.string ⟨#[90]⟩, .int .i64 (1 + min (max xwd 0) 5000), .int .i64 (1 + min (max xln 0) 5000), .int .i64 0, .int .i64 0, .int .i64 0, .slice none 0 0] 36)) gz 36 #[.string ⟨#[90]⟩, .int .i64 (1 + min (max xwd 0) 5000), .int .i64 (1 + min (max xln 0) 5000), .int .i64 0, .int .i64 0, .int .i64 0, .slice none 0 0] := hgz ▸ Blk.new _ _ _
            have K5 : Blk (w4.alloc (.cells #[.string ⟨#[90]⟩, .int .i64 (1 + min (max xwd 0) 5000), .int .i64 (1 + min (max xln 0) 5000), .int .i64 0, .int .i64 0, .int .i64 0, .slice none 0 0] 36)) gm 31 #[.int .i64 len, .int .i64 wd, .int .i64 rx, .int .i64 ry, .slice s1 sz.length c1, .slice s2 pl.length c2, .slice qa ps.length qc, .slice ra rs.length rc, .slice la lots.length lc, .slice aa plies.length ac] := K4.alloc _
            have O5 : OwnR (w4.alloc (.cells #[.string ⟨#[90]⟩, .int .i64 (1 + min (max xwd 0) 5000), .int .i64 (1 + min (max xln 0) 5000), .int .i64 0, .int .i64 0, .int .i64 0, .slice none 0 0] 36)) W15.heap.size 36 7 Rl.cells (.slice A4 rs.length c4') rs := OwnR.alloc ho4 _
            have L5 : Later wc (w4.alloc (.cells #[.string ⟨#[90]⟩, .int .i64 (1 + min (max xwd 0) 5000), .int .i64 (1 + min (max xln 0) 5000), .int .i64 0, .int .i64 0, .int .i64 0, .slice none 0 0] 36)) := L4.alloc _
            have Z5 : W15.heap.size ≤ (w4.alloc (.cells #[.string ⟨#[90]⟩, .int .i64 (1 + min (max xwd 0) 5000), .int .i64 (1 + min (max xln 0) 5000), .int .i64 0, .int .i64 0, .int .i64 0, .slice none 0 0] 36)).heap.size := by simp; omega
            (try simp only [Act.put, List.setIfInBounds_toArray, List.set_cons_zero, List.set_cons_succ])
            rw [hgz]
            generalize w4.alloc (.cells #[.string ⟨#[90]⟩, .int .i64 (1 + min (max xwd 0) 5000), .int .i64 (1 + min (max xln 0) 5000), .int .i64 0, .int .i64 0, .int .i64 0, .slice none 0 0] 36) = w5 at *
            have HZ := Lib.hid (show SrcAt w5 (some ⟨gz, 0, none⟩) ([z].flatMap Rl.cells) by rw [List.flatMap_singleton, Hzc.out]; exact SrcAt.blk SZ)
            refine append_at (i := 16) (d := 105) slt_rolls rl_len rl_one (by kernel_rfl) rfl rfl rfl (.tmp 92) (.tmp 104) rfl (base := W15.heap.size) (l := rs) rfl O5 (A := some ⟨gz, 0, none⟩) (c := 1) [z] rfl (by intro h; cases h) HZ.out (by simp; omega) (by omega) (fun A5 c5' w6 ho6 hg6 => ?_)
            have L6 : Later wc w6 := Later.grown L5 hg6 (fun g hg => by have := (World.ownsRow.lt O5 g hg).1; have := hl15.size; omega)
            have K6 : Blk w6 gm 31 #[.int .i64 len, .int .i64 wd, .int .i64 rx, .int .i64 ry, .slice s1 sz.length c1, .slice s2 pl.length c2, .slice qa ps.length qc, .slice ra rs.length rc, .slice la lots.length lc, .slice aa plies.length ac] := K5.grown hg6 (fun e => by have := (World.ownsRow.lt O5 _ e.symm).1; omega)
            refine ⟨HSS.out _ L6, fun hS3 => ?_⟩
            simp only [Act.put, List.setIfInBounds_toArray, List.set_cons_zero, List.set_cons_succ]
            refine take_at (i := 17) (d := 106) (v := ?_) rfl rfl (by kernel_rfl) (by kernel_rfl) (by kernel_rfl) (fun _ _ _ h => h) (by rfl) ?_ (by assumption) ?_
            rotate_left
            · (intro w hSw; (try dsimp only at hSw); go_simp; (try with_reducible rfl))
            simp only [Act.put, List.setIfInBounds_toArray, List.set_cons_zero, List.set_cons_succ]
            have kc : w6.cell? ⟨gm, 7, none⟩ = some (.slice ra rs.length rc) := K6.cell 7
            have kf := K6.frozen 7
            have kz := K6.lt
            refine store_at (i := 18) (w' := w6.setCell ⟨gm, 7, none⟩ (.slice A5 (rs ++ [z]).length c5')) (by kernel_rfl) rfl rfl (by rfl) (by go_simp) (HSS.out _ (L6.put (by omega) _)) ?_
            refine wpAnyH_done (by kernel_rfl) ?_ _
            go_wp2_with fail
            go_meet
            have hle : (rs ++ [z]).length = rs.length + 1 := by simp
            exact ⟨rfl, A5, c5', by have h := K6.set_ 7 (.slice A5 (rs ++ [z]).length c5'); rw [hle] at h ⊢; exact h, OwnR.past ho6 (by omega), L6.put (by omega) _⟩
          · simp only [Act.put, List.setIfInBounds_toArray, List.set_cons_zero, List.set_cons_succ]
            refine append_at (i := 3) (d := 92) slt_rolls rl_len rl_one (by kernel_rfl) rfl rfl rfl (.tmp 89) (.tmp 91) rfl (base := W15.heap.size) (l := []) rfl (OwnR.alloc (OwnR.lit [] #[] rfl rl_len (by simp) (by simp; try omega) rfl (by simp)) _) (A := ra) (c := rc) rs rfl Hra.out (Hsr.out.later (by repeat' (with_reducible first | exact Later.refl _ | assumption | refine Later.drew ?_ | refine Later.drewN ?_ _ | refine Later.alloc ?_ _ | refine Later.put ?_ (by omega) _ | refine Later.trans ?_ (by assumption)))) (by simp; omega) (by simp; try omega) (fun A4 c4' w4 ho4 hg4 => ?_)
            have L4 : Later wc w4 := Later.grown (by first | exact (hl15.drew.alloc _) | exact ((hl15.drew.alloc _).alloc _)) hg4 (fun g hg => by injection hg with hg; have := hl15.size; simp at hg; omega)
            have K4 : Blk w4 gm 31 #[.int .i64 len, .int .i64 wd, .int .i64 rx, .int .i64 ry, .slice s1 sz.length c1, .slice s2 pl.length c2, .slice qa ps.length qc, .slice ra rs.length rc, .slice la lots.length lc, .slice aa plies.length ac] := Blk.grown (w := (W15.drew.alloc (.cells #[] 36)).alloc (.cells #[.string ⟨#[90]⟩, .int .i64 (1 + min (max xwd 0) 5000), .int .i64 (1 + min (max xln 0) 5000), .int .i64 0, .int .i64 0, .int .i64 0, .slice none 0 0] 36)) (by repeat' (with_reducible first | assumption | (refine Blk.newAt ?_; simp; done) | refine Blk.alloc ?_ _ | refine Blk.drew ?_ | refine Blk.drewN ?_ _ | refine Blk.later ?_ (by assumption))) hg4 (fun e => by injection e with e; simp at e; omega)
            have Z4 : W15.heap.size ≤ w4.heap.size := by have := hg4.size; simp at this; omega
            refine ⟨HSS.out _ L4, fun hS4 => ?_⟩
            simp only [Act.put, List.setIfInBounds_toArray, List.set_cons_zero, List.set_cons_succ]
            obtain ⟨gz, hgz⟩ : ∃ gz, W15.drew.heap.size + 1 = gz := ⟨_, rfl⟩
            have SZ : Blk w4 gz 36 #[.string ⟨#[90]⟩, .int .i64 (1 + min (max xwd 0) 5000), .int .i64 (1 + min (max xln 0) 5000), .int .i64 0, .int .i64 0, .int .i64 0, .slice none 0 0] := hgz ▸ Blk.grown (w := (W15.drew.alloc (.cells #[] 36)).alloc (.cells #[.string ⟨#[90]⟩, .int .i64 (1 + min (max xwd 0) 5000), .int .i64 (1 + min (max xln 0) 5000), .int .i64 0, .int .i64 0, .int .i64 0, .slice none 0 0] 36)) (by have h := Blk.new (W15.drew.alloc (.cells #[] 36)) 36 #[.string ⟨#[90]⟩, .int .i64 (1 + min (max xwd 0) 5000), .int .i64 (1 + min (max xln 0) 5000), .int .i64 0, .int .i64 0, .int .i64 0, .slice none 0 0]; simpa using h) hg4 (fun e => by injection e with e; simp at e)
            have K5 : Blk w4 gm 31 #[.int .i64 len, .int .i64 wd, .int .i64 rx, .int .i64 ry, .slice s1 sz.length c1, .slice s2 pl.length c2, .slice qa ps.length qc, .slice ra rs.length rc, .slice la lots.length lc, .slice aa plies.length ac] := K4
            have O5 : OwnR w4 W15.heap.size 36 7 Rl.cells (.slice A4 rs.length c4') rs := ho4
            have L5 : Later wc (w4) := L4
            have Z5 : W15.heap.size ≤ (w4).heap.size := Z4
            (try simp only [Act.put, List.setIfInBounds_toArray, List.set_cons_zero, List.set_cons_succ])
            rw [hgz]
            generalize w4 = w5 at *
            have HZ := Lib.hid (show SrcAt w5 (some ⟨gz, 0, none⟩) ([z].flatMap Rl.cells) by rw [List.flatMap_singleton, Hzc.out]; exact SrcAt.blk SZ)
            refine append_at (i := 16) (d := 105) slt_rolls rl_len rl_one (by kernel_rfl) rfl rfl rfl (.tmp 92) (.tmp 104) rfl (base := W15.heap.size) (l := rs) rfl O5 (A := some ⟨gz, 0, none⟩) (c := 1) [z] rfl (by intro h; cases h) HZ.out (by simp; omega) (by omega) (fun A5 c5' w6 ho6 hg6 => ?_)
            have L6 : Later wc w6 := Later.grown L5 hg6 (fun g hg => by have := (World.ownsRow.lt O5 g hg).1; have := hl15.size; omega)
            have K6 : Blk w6 gm 31 #[.int .i64 len, .int .i64 wd, .int .i64 rx, .int .i64 ry, .slice s1 sz.length c1, .slice s2 pl.length c2, .slice qa ps.length qc, .slice ra rs.length rc, .slice la lots.length lc, .slice aa plies.length ac] := K5.grown hg6 (fun e => by have := (World.ownsRow.lt O5 _ e.symm).1; omega)
            refine ⟨HSS.out _ L6, fun hS3 => ?_⟩
            simp only [Act.put, List.setIfInBounds_toArray, List.set_cons_zero, List.set_cons_succ]
            refine take_at (i := 17) (d := 106) (v := ?_) rfl rfl (by kernel_rfl) (by kernel_rfl) (by kernel_rfl) (fun _ _ _ h => h) (by rfl) ?_ (by assumption) ?_
            rotate_left
            · (intro w hSw; (try dsimp only at hSw); go_simp; (try with_reducible rfl))
            simp only [Act.put, List.setIfInBounds_toArray, List.set_cons_zero, List.set_cons_succ]
            have kc : w6.cell? ⟨gm, 7, none⟩ = some (.slice ra rs.length rc) := K6.cell 7
            have kf := K6.frozen 7
            have kz := K6.lt
            refine store_at (i := 18) (w' := w6.setCell ⟨gm, 7, none⟩ (.slice A5 (rs ++ [z]).length c5')) (by kernel_rfl) rfl rfl (by rfl) (by go_simp) (HSS.out _ (L6.put (by omega) _)) ?_
            refine wpAnyH_done (by kernel_rfl) ?_ _
            go_wp2_with fail
            go_meet
            have hle : (rs ++ [z]).length = rs.length + 1 := by simp
            exact ⟨rfl, A5, c5', by have h := K6.set_ 7 (.slice A5 (rs ++ [z]).length c5'); rw [hle] at h ⊢; exact h, OwnR.past ho6 (by omega), L6.put (by omega) _⟩
        · simp only [Act.put, List.setIfInBounds_toArray, List.set_cons_zero, List.set_cons_succ]
          refine val_at (i := 0) (d := 89) (v := .slice (some ⟨W15.drew.heap.size + 1, 0, none⟩) 0 0) (w' := (W15.drew.alloc (.cells #[.string ⟨#[90]⟩, .int .i64 (1 + min (max xwd 0) 5000), .int .i64 (1 + min (max xln 0) 5000), .int .i64 0, .int .i64 0, .int .i64 0, .slice none 0 0] 36)).alloc (.cells #[] 36)) (by kernel_rfl) rfl rfl (by rfl) (by go_simp) (hS _ ((hl15.drew.alloc _).alloc _)) ?_
          simp only [Act.put, List.setIfInBounds_toArray, List.set_cons_zero, List.set_cons_succ]
          refine append_at (i := 3) (d := 92) slt_rolls rl_len rl_one (by kernel_rfl) rfl rfl rfl (.tmp 89) (.tmp 91) rfl (base := W15.heap.size) (l := []) rfl (OwnR.lit [] #[] rfl rl_len (by simp) (by simp; try omega) rfl (by simp)) (A := ra) (c := rc) rs rfl Hra.out (Hsr.out.later (by repeat' (with_reducible first | exact Later.refl _ | assumption | refine Later.drew ?_ | refine Later.drewN ?_ _ | refine Later.alloc ?_ _ | refine Later.put ?_ (by omega) _ | refine Later.trans ?_ (by assumption)))) (by simp; omega) (by simp; try omega) (fun A4 c4' w4 ho4 hg4 => ?_)
          have L4 : Later wc w4 := Later.grown (by first | exact (hl15.drew.alloc _) | exact ((hl15.drew.alloc _).alloc _)) hg4 (fun g hg => by injection hg with hg; have := hl15.size; simp at hg; omega)
          have K4 : Blk w4 gm 31 #[.int .i64 len, .int .i64 wd, .int .i64 rx, .int .i64 ry, .slice s1 sz.length c1, .slice s2 pl.length c2, .slice qa ps.length qc, .slice ra rs.length rc, .slice la lots.length lc, .slice aa plies.length ac] := Blk.grown (w := (W15.drew.alloc (.cells #[.string ⟨#[90]⟩, .int .i64 (1 + min (max xwd 0) 5000), .int .i64 (1 + min (max xln 0) 5000), .int .i64 0, .int .i64 0, .int .i64 0, .slice none 0 0] 36)).alloc (.cells #[] 36)) (by repeat' (with_reducible first | assumption | (refine Blk.newAt ?_; simp; done) | refine Blk.alloc ?_ _ | refine Blk.drew ?_ | refine Blk.drewN ?_ _ | refine Blk.later ?_ (by assumption))) hg4 (fun e => by injection e with e; simp at e; omega)
          have Z4 : W15.heap.size ≤ w4.heap.size := by have := hg4.size; simp at this; omega
          refine ⟨HSS.out _ L4, fun hS4 => ?_⟩
          simp only [Act.put, List.setIfInBounds_toArray, List.set_cons_zero, List.set_cons_succ]
          obtain ⟨gz, hgz⟩ : ∃ gz, W15.drew.heap.size = gz := ⟨_, rfl⟩
          have SZ : Blk w4 gz 36 #[.string ⟨#[90]⟩, .int .i64 (1 + min (max xwd 0) 5000), .int .i64 (1 + min (max xln 0) 5000), .int .i64 0, .int .i64 0, .int .i64 0, .slice none 0 0] := hgz ▸ Blk.grown (w := (W15.drew.alloc (.cells #[.string ⟨#[90]⟩, .int .i64 (1 + min (max xwd 0) 5000), .int .i64 (1 + min (max xln 0) 5000), .int .i64 0, .int .i64 0, .int .i64 0, .slice none 0 0] 36)).alloc (.cells #[] 36)) (Blk.alloc (Blk.new _ _ _) _) hg4 (fun e => by injection e with e; simp at e)
          have K5 : Blk w4 gm 31 #[.int .i64 len, .int .i64 wd, .int .i64 rx, .int .i64 ry, .slice s1 sz.length c1, .slice s2 pl.length c2, .slice qa ps.length qc, .slice ra rs.length rc, .slice la lots.length lc, .slice aa plies.length ac] := K4
          have O5 : OwnR w4 W15.heap.size 36 7 Rl.cells (.slice A4 rs.length c4') rs := ho4
          have L5 : Later wc (w4) := L4
          have Z5 : W15.heap.size ≤ (w4).heap.size := Z4
          (try simp only [Act.put, List.setIfInBounds_toArray, List.set_cons_zero, List.set_cons_succ])
          rw [hgz]
          generalize w4 = w5 at *
          have HZ := Lib.hid (show SrcAt w5 (some ⟨gz, 0, none⟩) ([z].flatMap Rl.cells) by rw [List.flatMap_singleton, Hzc.out]; exact SrcAt.blk SZ)
          refine append_at (i := 16) (d := 105) slt_rolls rl_len rl_one (by kernel_rfl) rfl rfl rfl (.tmp 92) (.tmp 104) rfl (base := W15.heap.size) (l := rs) rfl O5 (A := some ⟨gz, 0, none⟩) (c := 1) [z] rfl (by intro h; cases h) HZ.out (by simp; omega) (by omega) (fun A5 c5' w6 ho6 hg6 => ?_)
          have L6 : Later wc w6 := Later.grown L5 hg6 (fun g hg => by have := (World.ownsRow.lt O5 g hg).1; have := hl15.size; omega)
          have K6 : Blk w6 gm 31 #[.int .i64 len, .int .i64 wd, .int .i64 rx, .int .i64 ry, .slice s1 sz.length c1, .slice s2 pl.length c2, .slice qa ps.length qc, .slice ra rs.length rc, .slice la lots.length lc, .slice aa plies.length ac] := K5.grown hg6 (fun e => by have := (World.ownsRow.lt O5 _ e.symm).1; omega)
          refine ⟨HSS.out _ L6, fun hS3 => ?_⟩
          simp only [Act.put, List.setIfInBounds_toArray, List.set_cons_zero, List.set_cons_succ]
          refine take_at (i := 17) (d := 106) (v := ?_) rfl rfl (by kernel_rfl) (by kernel_rfl) (by kernel_rfl) (fun _ _ _ h => h) (by rfl) ?_ (by assumption) ?_
          rotate_left
          · (intro w hSw; (try dsimp only at hSw); go_simp; (try with_reducible rfl))
          simp only [Act.put, List.setIfInBounds_toArray, List.set_cons_zero, List.set_cons_succ]
          have kc : w6.cell? ⟨gm, 7, none⟩ = some (.slice ra rs.length rc) := K6.cell 7
          have kf := K6.frozen 7
          have kz := K6.lt
          refine store_at (i := 18) (w' := w6.setCell ⟨gm, 7, none⟩ (.slice A5 (rs ++ [z]).length c5')) (by kernel_rfl) rfl rfl (by rfl) (by go_simp) (HSS.out _ (L6.put (by omega) _)) ?_
          refine wpAnyH_done (by kernel_rfl) ?_ _
          go_wp2_with fail
          go_meet
          have hle : (rs ++ [z]).length = rs.length + 1 := by simp
          exact ⟨rfl, A5, c5', by have h := K6.set_ 7 (.slice A5 (rs ++ [z]).length c5'); rw [hle] at h ⊢; exact h, OwnR.past ho6 (by omega), L6.put (by omega) _⟩
      case rest =>
        obtain ⟨rfl, A5, c5, D5, ho5, hl5⟩ := hcut
        have Ho5 := Lib.hid ho5
        have D1d := D1c.later hl5
        clear ho5 k0 k1 k2 k3 k4 k5 k6 k7 k8 k9 zk r1 r2 zr Hsr hl15 DM v1 v2 D2c Hzc
        rw [hgm2] at hg4c hg7c hgwc hgm
        have k8 : wc.cell? ⟨w.heap.size, 8, none⟩ = some (.slice la lots.length lc) := D1d.cell 8
        have zk := D1d.lt
        have z5 := D5.lt
        have Hsl2 := Lib.hid (SrcAt.ints ((hlots.later hlc).later hl5))
        have hne5 : some gm ≠ some wc.heap.size := by intro e; injection e with e; omega
        have hlen5 : wc.heap.size ≤ wc.heap.size := Nat.le_refl _
        go_upto_region 17 with (first
          | (at_builtin; refine wpList_append_rec slt_ints i1_len i1_one rfl (.tmp 107) (.tmp 109) rfl (base := wc.heap.size) (l := []) rfl (by repeat' (first | (with_reducible assumption) | (with_reducible refine OwnR.drew ?_) | (refine OwnR.lit [] #[] rfl i1_len (by simp) (by simp) rfl (by simp); done) | (with_reducible refine OwnR.alloc ?_ _))) (A := la) (c := lc) lots rfl Hla.out (Hsl2.out.later (by repeat' (with_reducible first | exact Later.refl _ | assumption | refine Later.drew ?_ | refine Later.drewN ?_ _ | refine Later.alloc ?_ _ | refine Later.put ?_ (by omega) _ | refine Later.trans ?_ (by assumption)))) (by simp; omega) (by simp) ?_; intro A6 c6' w6 ho6' hg6; have ho6 : OwnR w6 wc.heap.size 3 1 i1 (.slice A6 lots.length c6') lots := ho6'; clear ho6'; have hl6 : Later wc w6 := Later.grown (by repeat' (with_reducible first | exact Later.refl _ | assumption | refine Later.drew ?_ | refine Later.drewN ?_ _ | refine Later.alloc ?_ _ | refine Later.put ?_ (by omega) _ | refine Later.trans ?_ (by assumption))) hg6 (by intro g hg; cases hg; simp); have K6 := Blk.grown ((by repeat' (with_reducible first | assumption | (refine Blk.newAt ?_; simp; done) | refine Blk.alloc ?_ _ | refine Blk.drew ?_ | refine Blk.drewN ?_ _ | refine Blk.later ?_ (by assumption))) : Blk _ gm 31 #[.int .i64 len, .int .i64 wd, .int .i64 rx, .int .i64 ry, .slice s1 sz.length c1, .slice s2 pl.length c2, .slice qa ps.length qc, .slice A5 (rs.length + 1) c5, .slice la lots.length lc, .slice aa plies.length ac]) hg6 hne5)
          | (at_builtin; refine wpList_append_rec slt_ints i1_len i1_one rfl (.tmp 110) (.tmp 113) rfl (base := wc.heap.size) (l := lots) rfl (OwnR.alloc ho6 _) (A := some ⟨w6.heap.size, 0, none⟩) (c := 1) [(lot : Int)] rfl (by intro h; cases h) (SrcAt.blk (cs := #[.int .i64 (lot : Int)]) (by repeat' (with_reducible first | assumption | (refine Blk.newAt ?_; simp; done) | refine Blk.alloc ?_ _ | refine Blk.drew ?_ | refine Blk.drewN ?_ _ | refine Blk.later ?_ (by assumption)))) (by simp; omega) (by have := hl6.size; simp; omega) ?_; intro A7 c7' w7 ho7 hg7; have hl7 : Later wc w7 := Later.grown (by repeat' (with_reducible first | exact Later.refl _ | assumption | refine Later.drew ?_ | refine Later.drewN ?_ _ | refine Later.alloc ?_ _ | refine Later.put ?_ (by omega) _ | refine Later.trans ?_ (by assumption))) hg7 (fun g hg => (World.ownsRow.lt ho6 g hg).1); have K7 := Blk.grown (K6.alloc _) hg7 (fun e => by have := (World.ownsRow.lt ho6 _ e.symm).1; omega); have kf := K7.frozen 8; have kz := K7.lt; have kc : w7.cell? ⟨gm, 8, none⟩ = some (.slice la lots.length lc) := K7.cell 8))
        refine name_world (fun W17 hW17 => ?_)
        have hl0 := (hl5.trans hl7).put (b := gm) (o := 8) (by omega) (.slice A7 (lots.length + 1) c7')
        have D17 : Blk W17 gm 31 #[.int .i64 len, .int .i64 wd, .int .i64 rx, .int .i64 ry, .slice s1 sz.length c1, .slice s2 pl.length c2, .slice qa ps.length qc, .slice A5 (rs.length + 1) c5, .slice A7 (lots.length + 1) c7', .slice aa plies.length ac] := by rw [hW17]; exact K7.set_ 8 _
        have hA : Rolls W17 A5 (rs ++ [z]) := by
          rw [hW17]
          refine (OwnR.list (ok := RlOk) rl_len (OwnR.past (Ho5.out.later hl7) (by omega)) (fun a ha => ?_)).2.2.2
          rcases List.mem_append.1 ha with ha | ha
          · obtain ⟨i, hi, rfl⟩ := List.getElem_of_mem ha
            obtain ⟨_, _, _, _, _, _, _, _, _, _, hk⟩ := (hrs.later (hlc.trans hl0)).at_ hi
            exact hk
          · rw [List.mem_singleton.1 ha]
            exact Hz.out _
        have hB : Ints W17 A7 (lots ++ [(lot : Int)]) := by
          rw [hW17]
          exact OwnR.ints2 (OwnR.past ho7 (by omega))
        rw [← hW17] at hl0
        have D1e := D1c.later hl0
        have D3e := D3c.later hl0
        have hPe := Plys.later hPc hl0
        have hle := hlc.trans hl0
        have HMm := Lib.hid (fun W (hW : Later W17 W) => HM.out A5 A7 c5 c7' W (hle.trans hW) (hA.later hW) (hB.later hW))
        simp only [List.length_append, List.length_singleton] at HMm
        clear hW17 hA hB ho6 hg6 K6 ho7 hg7 K7 kf kz kc k8 zk z5 hl6 hl7 D1d D5 Ho5 HM
        have k0 : W17.cell? ⟨gm, 0, none⟩ = some (.int .i64 len) := D17.cell 0
        have k1 : W17.cell? ⟨gm, 1, none⟩ = some (.int .i64 wd) := D17.cell 1
        have k2 : W17.cell? ⟨gm, 2, none⟩ = some (.int .i64 rx) := D17.cell 2
        have k3 : W17.cell? ⟨gm, 3, none⟩ = some (.int .i64 ry) := D17.cell 3
        have k4 : W17.cell? ⟨gm, 4, none⟩ = some (.slice s1 sz.length c1) := D17.cell 4
        have k5 : W17.cell? ⟨gm, 5, none⟩ = some (.slice s2 pl.length c2) := D17.cell 5
        have k6 : W17.cell? ⟨gm, 6, none⟩ = some (.slice qa ps.length qc) := D17.cell 6
        have zk := D17.lt
        have k7 : W17.cell? ⟨gm, 7, none⟩ = some (.slice A5 (rs.length + 1) c5) := D17.cell 7
        have k8 : W17.cell? ⟨gm, 8, none⟩ = some (.slice A7 (lots.length + 1) c7') := D17.cell 8
        have k9 : W17.cell? ⟨gm, 9, none⟩ = some (.slice aa plies.length ac) := D17.cell 9
        go_upto_region 18 with (first | (go_at_call 8; (with_reducible refine (HMm.out _ (by repeat' (with_reducible first | exact Later.refl _ | assumption | refine Later.drew ?_ | refine Later.drewN ?_ _ | refine Later.alloc ?_ _ | refine Later.put ?_ (by omega) _ | refine Later.trans ?_ (by assumption)))).mono ?_); rintro e w18 ⟨S1', d1', S2', d2', P', pc', X', nx', xc', ys', rfl, hys', hP', hb18⟩))
        refine name_world (fun W19 hW19 => ?_)
        have hl19 : Later w18 W19 := by rw [hW19]; exact (by repeat' (with_reducible first | exact Later.refl _ | assumption | refine Later.drew ?_ | refine Later.drewN ?_ _ | refine Later.alloc ?_ _ | refine Later.put ?_ (by omega) _ | refine Later.trans ?_ (by assumption)))
        have D19 : Blk W19 w18.heap.size 39 #[.int .i64 len, .int .i64 wd, .int .i64 rx, .int .i64 ry, .slice S1' sz.length d1', .slice S2' pl.length d2', .slice P' ys'.length pc'] := by rw [hW19]; exact (by repeat' (with_reducible first | assumption | (refine Blk.newAt ?_; simp; done) | refine Blk.alloc ?_ _ | refine Blk.drew ?_ | refine Blk.drewN ?_ _ | refine Blk.later ?_ (by assumption)))
        have D3f := D3e.later (hb18.trans hl19)
        have hyl : ys'.length = yl.length := by rw [← hys', List.length_map]
        have HSm := Lib.hid (fun W (hW : Later W19 W) => by
          have h := ref38_SamePlies P' P pc' pc ys' ys W (by have := Hyn.out; omega) (by omega) (Plys.later hP' (hl19.trans hW)) (Plys.later hPe ((hb18.trans hl19).trans hW)) (fun y hy => by
            have hm2 : y.parts ∈ yl.map Prod.snd := by
              rw [← hys', List.map_map]
              exact List.mem_map_of_mem (f := Prod.snd ∘ Py.pl) hy
            rw [← hys, List.map_map] at hm2
            obtain ⟨z, hz1, hz2⟩ := List.mem_map.1 hm2
            have hz3 : z.parts = y.parts := hz2
            rw [← hz3]
            have := HPy.out z hz1
            omega)
          rw [show samePl ys' ys = true from decide_eq_true (hys'.trans hys.symm)] at h
          exact h)
        have m6 : W19.cell? ⟨w18.heap.size, 6, none⟩ = some (.slice P' ys'.length pc') := D19.cell 6
        have l6 : W19.cell? ⟨g7, 6, none⟩ = some (.slice P ys.length pc) := D3f.cell 6
        have zm := D19.lt
        have zl := D3f.lt
        have hlf := hle.trans (hb18.trans hl19)
        clear hW19 k0 k1 k2 k3 k4 k5 k6 k7 k8 k9 zk hyl
        generalize w18.heap.size = g16 at *
        go_wp2_with (first
          | (go_at_call 7; (with_reducible refine (HSm.out _ (by repeat' (with_reducible first | exact Later.refl _ | assumption | refine Later.drew ?_ | refine Later.drewN ?_ _ | refine Later.alloc ?_ _ | refine Later.put ?_ (by omega) _ | refine Later.trans ?_ (by assumption)))).mono ?_); rintro e w20 ⟨rfl, hb20⟩)
          | (go_at_call 6; (with_reducible refine (HX.out _).mono ?_); rintro e w21 ⟨rfl, hb21⟩))
        go_ret
        exact ⟨rfl, hlf.trans (by repeat' (with_reducible first | exact Later.refl _ | assumption | refine Later.drew ?_ | refine Later.drewN ?_ _ | refine Later.alloc ?_ _ | refine Later.put ?_ (by omega) _ | refine Later.trans ?_ (by assumption)))⟩
  · have HL2 := Lib.hid (fun W (hW : Later w W) => law38_laid_no c W (hc.later hW) hok)
    unfold C8.agg at HL2 ⊢
    unfold Rl.agg
    clear hok
    obtain ⟨len, wd, rx, ry, s1, c1, sz, s2, c2, pl, qa, qc, ps, ra, rc, rs, la, lc, lots, aa, ac, plies⟩ := c
    simp only [] at HL2 ⊢
    go_enter Try.func3, Try.ntmps3
    go_wp2_with (first | (go_at_call 5; (with_reducible refine (HL2.out _ (by repeat' (with_reducible first | exact Later.refl _ | assumption | refine Later.drew ?_ | refine Later.drewN ?_ _ | refine Later.alloc ?_ _ | refine Later.put ?_ (by omega) _ | refine Later.trans ?_ (by assumption)))).mono ?_); rintro e w2 ⟨rfl, hb2⟩) | (go_at_call 6; (with_reducible refine (HX.out _).mono ?_); rintro e w10 ⟨rfl, hb10⟩))
    go_ret
    exact ⟨rfl, (by repeat' (with_reducible first | exact Later.refl _ | assumption | refine Later.drew ?_ | refine Later.drewN ?_ _ | refine Later.alloc ?_ _ | refine Later.put ?_ (by omega) _ | refine Later.trans ?_ (by assumption)))⟩

end Go.Proofs.Ytdhakoecjmaebaa
