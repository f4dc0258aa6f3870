/-
  DamageCarried, walked; a list of numbers as an argument, opened.
-/
import Derived.Test.YtinjdlnikhcbfaaCarP
import Derived.Test.YtinjdlnikhcbfaaOpenL
namespace Go.Proofs.Ytinjdlnikhcbfaa
open Go.RowKit Go.WideShapes Go.ChangeShapes Go.ChangeAt
set_option linter.unusedSimpArgs false
set_option linter.unusedVariables false

section
variable {H : Type} {enc : TypeId × Value → H} {w : World} {base : Nat} {spare : Nat → Bool} {held : Bool} {n : Nat} {cs : List Value} {x : DataW H × List MemPlace}
theorem ints_of_trod (h : DataW.trod enc Try.prog w base spare held n 24 cs = some x) : ∃ A c, ∃ l : List Int, cs = [.slice A l.length c] ∧ l.length ≤ c ∧ c ≤ maxLen ∧ Ints w A l ∧ ∀ n ∈ l, I64 n := by
  obtain ⟨v, l, rfl, hs⟩ := open_rows Try.underlying24 (sz := 1) (R := fun cs (n : Int) => cs = i1 n ∧ I64 n) (by kernel_rfl) (by omega) (fun n cs x h => int_of_trod Try.underlying3 h) h
  obtain ⟨A, c, rfl, h1, h2, h3⟩ := list_of_rows (ok := fun _ n => I64 n) hs
  refine ⟨A, c, l, rfl, h1, h2, fun hn => ?_, fun n hn => ?_⟩
  · obtain ⟨b, o, e, hx⟩ := h3 hn
    refine ⟨b, o, e, fun i n hi => ?_⟩
    have := (hx i n hi).1 0 _ rfl
    rw [Nat.mul_one, Nat.add_zero] at this
    exact this
  · obtain ⟨k, hk, rfl⟩ := List.getElem_of_mem hn
    obtain ⟨b, o, e, hx⟩ := h3 (by omega)
    exact (hx k _ (List.getElem?_eq_getElem hk)).2
end
theorem Tab.row {w : World} {A : Option Addr} {rows : List (List Bool)} (h : Tab w A rows) {k : Nat} (hk : k < rows.length) : ∃ b o A' c', A = some ⟨b, o, none⟩ ∧ w.cell? ⟨b, o + k, none⟩ = some (.slice A' rows[k].length c') := by
  obtain ⟨b, o, e, hx⟩ := h (by omega)
  obtain ⟨v, hv, A', c', rfl, _⟩ := hx k _ (List.getElem?_eq_getElem hk)
  exact ⟨b, o, A', c', e, hv⟩

set_option maxHeartbeats 8000000 in
set_option maxRecDepth 100000 in
theorem law39_DamageCarried_in (hex : ∀ W, Calls Try.prog 30 #[] W (Ret (.bool true) W)) (y : Ly) (C L Q : Option Addr) (cc lc qc : Nat) (rs : List Rl) (lots : List Int) (ps : List (List Pt)) (w : World)
    (hy : LyOk w y) (hr : Rolls w C rs) (hL : Ints w L lots) (hll : lots.length ≤ 9223372036854775807) (hp : Polys w Q ps) (hf : fewB y.ys rs ps = true) (hck : scheckR y.l y.w ps rs lots (y.ys.map Py.pl) = 0) :
    Calls Try.prog 11 #[y.agg, .slice C rs.length cc, .slice L lots.length lc, .slice Q ps.length qc] w (Ret (.bool true) w) := by
  have HX := Lib.hid hex
  clear hex
  have HF := Lib.hid (fun W (hW : Later w W) => law39_few y C Q cc qc rs ps W (hy.later hW) (hr.later hW) (hp.later hW))
  rw [hf] at HF
  obtain ⟨⟨h12, h6, h6'⟩, h1, _, h2⟩ := few_all hf
  clear hf
  have hparts : ∀ p ∈ y.ys, p.parts.length ≤ 65536 := fun p hp => by have := h1 p hp; omega
  have hparts2 : ∀ p ∈ y.ys, p.parts.length ≤ 1000 := fun p hp => by have := h1 p hp; omega
  have hpl : PtsOk ps := fun p hp => by have := h2 p hp; omega
  have HA := Lib.hid (fun W (hW : Later w W) => damage_Table_ok y.pa C Q y.s1 y.s2 y.pc cc qc y.n1 y.c1 y.n2 y.c2 y.l y.w y.rx y.ry y.ys rs ps W (hy.later hW).1 (hr.later hW) (hp.later hW) (by omega) hparts hpl (by omega) (by omega))
  have HK := Lib.hid (fun W (hW : Later w W) => spread_Check Q C L y.s1 y.s2 y.pa qc cc lc y.n1 y.c1 y.n2 y.c2 y.pc y.l y.w y.rx y.ry ps rs lots y.ys W (hp.later hW) hpl (hr.later hW) (by omega) (hL.later hW) hll (hy.later hW).1 (by omega) hparts2)
  have HCa := Lib.hid (carried hck)
  rw [carried_tab hck] at HA
  rw [hck] at HK
  clear hck
  have hrl : (tabRows rs ps y.ys).length = y.ys.length := by simp [tabRows]
  have hrr : ∀ k (hk : k < (tabRows rs ps y.ys).length), ((tabRows rs ps y.ys)[k]).length = ps.length := fun k hk => by simp [tabRows]
  generalize tabRows rs ps y.ys = rows at *
  have Hrl := Lib.hid hrl
  have Hrr := Lib.hid hrr
  have drl : ((rows.length : Int) != (y.ys.length : Int)) = false := by simp [hrl]
  clear hrl hrr
  unfold Ly.agg at HF ⊢
  have hyP := hy.1
  obtain ⟨l0, l1, l2, l3, s1, n1, c1, s2, n2, c2, pa, pc, ys⟩ := y
  simp only [] at HF HA HK HCa Hrl Hrr drl h12 h1 hyP hparts ⊢
  go_enter Try.func11, Try.ntmps11
  go_upto_region 6 with (first
    | (go_at_call 29; (with_reducible refine (HF.out _ (by repeat' (with_reducible first | exact Later.refl _ | assumption | refine Later.drew ?_ | refine Later.drewN ?_ _ | refine Later.alloc ?_ _ | refine Later.put ?_ (by omega) _ | refine Later.trans ?_ (by assumption)))).mono ?_); rintro e w1 ⟨rfl, hb1⟩; have D0 : Blk w1 w.heap.size 36 #[.int .i64 l0, .int .i64 l1, .int .i64 l2, .int .i64 l3, .slice s1 n1 c1, .slice s2 n2 c2, .slice pa ys.length pc] := Blk.later (by repeat' (with_reducible first | assumption | (refine Blk.newAt ?_; simp; done) | refine Blk.alloc ?_ _ | refine Blk.drew ?_ | refine Blk.drewN ?_ _ | refine Blk.later ?_ (by assumption))) hb1; have hl1 : Later w w1 := (by repeat' (with_reducible first | exact Later.refl _ | assumption | refine Later.drew ?_ | refine Later.drewN ?_ _ | refine Later.alloc ?_ _ | refine Later.put ?_ (by omega) _ | refine Later.trans ?_ (by assumption))); have p0 : w1.cell? ⟨w.heap.size, 0, none⟩ = some (.int .i64 l0) := D0.cell 0; have p1 : w1.cell? ⟨w.heap.size, 1, none⟩ = some (.int .i64 l1) := D0.cell 1; have p2 : w1.cell? ⟨w.heap.size, 2, none⟩ = some (.int .i64 l2) := D0.cell 2; have p3 : w1.cell? ⟨w.heap.size, 3, none⟩ = some (.int .i64 l3) := D0.cell 3; have p4 : w1.cell? ⟨w.heap.size, 4, none⟩ = some (.slice s1 n1 c1) := D0.cell 4; have p5 : w1.cell? ⟨w.heap.size, 5, none⟩ = some (.slice s2 n2 c2) := D0.cell 5; have p6 : w1.cell? ⟨w.heap.size, 6, none⟩ = some (.slice pa ys.length pc) := D0.cell 6; clear hb1)
    | (go_at_call 25; (with_reducible refine (HK.out _ hl1).mono ?_); rintro e w2 ⟨rfl, hb2⟩; have hl2 := hl1.trans hb2; have p0 := hb2.cell p0; have p1 := hb2.cell p1; have p2 := hb2.cell p2; have p3 := hb2.cell p3; have p4 := hb2.cell p4; have p5 := hb2.cell p5; have p6 := hb2.cell p6)
    | (go_at_call 31; (with_reducible refine (HA.out _ hl2).mono ?_); rintro e w3 (⟨_, A2, c2', rfl, z1, z2, hb3⟩ | ⟨h, _⟩); rotate_left; exact absurd rfl h; have hl3 := hl2.trans hb3; have p6 := hb3.cell p6))
  clear HF HA HK p0 p1 p2 p3 p4 p5 drl
  generalize w.heap.size = g4 at *
  go_wp2
  go_loopw [55] (fun iv wr => ∃ k : Nat, k ≤ ys.length ∧ iv = .int .i64 k ∧ Later w3 wr) (fun iv _ => ys.length - (intOf iv).toNat)
  case atStart => exact ⟨0, by omega, rfl, Later.refl _⟩
  case round =>
    obtain ⟨k, hk, rfl, hb⟩ := hrel
    have hlw : Later w wr := hl3.trans hb
    by_cases hlt : k < ys.length
    · have hokw : PyOk w ys[k] := by obtain ⟨_, _, _, _, _, h⟩ := hyP.at_ hlt; exact h
      obtain ⟨hpc, hpm, hqd, hqi⟩ := hokw
      obtain ⟨bb, ob, rfl, e1, e2, _⟩ := (hyP.later hlw).at_ hlt
      have hbz : bb < wr.heap.size := World.block_lt_of_cell? _ _ e1
      have hkr : k < rows.length := by rw [Hrl.out]; exact hlt
      obtain ⟨bt, ot, A', c', rfl, t1⟩ := (z2.later hb).row hkr
      rw [Hrr.out k hkr] at t1
      have zt : bt < wr.heap.size := World.block_lt_of_cell? _ _ t1
      have hpn := hparts _ (List.getElem_mem hlt)
      have HCy := Lib.hid (HCa.out _ (List.getElem_mem hlt))
      generalize ys[k] = y at *
      obtain ⟨lot, pa', pc', parts⟩ := y
      simp only [] at e1 e2 hpc hpm hqd hpn
      have hk0 : (0 : Int) ≤ (k : Int) := by omega
      have hk1 : (k : Int) < (ys.length : Int) := by omega
      have hk2 : (k : Int) < (rows.length : Int) := by omega
      go_wp2
      refine name_world (fun W5 hW5 => ?_)
      have hl5 : Later wr W5 := by rw [hW5]; exact (by repeat' (with_reducible first | exact Later.refl _ | assumption | refine Later.drew ?_ | refine Later.drewN ?_ _ | refine Later.alloc ?_ _ | refine Later.put ?_ (by omega) _ | refine Later.trans ?_ (by assumption)))
      have D12 : Blk W5 wr.heap.size 53 #[.int .i64 lot, .slice pa' parts.length pc'] := by rw [hW5]; exact (by repeat' (with_reducible first | assumption | (refine Blk.newAt ?_; simp; done) | refine Blk.alloc ?_ _ | refine Blk.drew ?_ | refine Blk.drewN ?_ _ | refine Blk.later ?_ (by assumption)))
      clear hW5 e1 e2 t1
      generalize wr.heap.size = g12 at *
      go_loopw [70] (fun iv wq => ∃ i : Nat, i ≤ ps.length ∧ iv = .int .i64 i ∧ Later W5 wq) (fun iv _ => ps.length - (intOf iv).toNat)
      case atStart => exact ⟨0, by omega, rfl, Later.refl _⟩
      case round =>
        obtain ⟨i, hi, rfl, hb6⟩ := hrel
        have hlw6 : Later w wr := hlw.trans (hl5.trans hb6)
        by_cases hli : i < ps.length
        · obtain ⟨bq, oq, A6, c6, rfl, k1, k2, k3⟩ := (hp.later hlw6).at_ hli
          have zq : bq < wr.heap.size := World.block_lt_of_cell? _ _ k1
          have hpn2 := hpl _ (List.getElem_mem hli)
          obtain ⟨j, n, hcar⟩ := HCy.out _ (List.getElem_mem hli)
          generalize ps[i] = q at *
          obtain ⟨f1, f2, f3, f4, f5, f6, f7, _⟩ := hcar
          simp only [] at f2 f4 f5 f6 f7
          rw [gq_at f2] at f5 f7
          have HC := Lib.hid (fun W (hW : Later w W) (hq : Pts W A6 q) => damage_Carrier A6 pa' c6 pc' lot parts q W hpn2 k2 hq hpn hpc (hqd.later hW))
          rw [f4] at HC
          have HB := Lib.hid (fun W (hW : Pts W A6 q) => polygon_Box_ok A6 c6 q W hpn2 k2 hW f1)
          have hsm := lo_sm (small_of_check f1)
          have hbd := carries_bd f7
          clear f1 f4 f7
          generalize loOf q = lo at *
          generalize hiOf q = hi at *
          obtain ⟨lx, ly⟩ := lo
          obtain ⟨hx, hy'⟩ := hi
          obtain ⟨⟨u1, u2⟩, ⟨u3, u4⟩⟩ := hsm
          unfold Sm at u1 u2 u3 u4
          obtain ⟨bx, ox, rfl, hat⟩ := (hqd.later hlw6) (by omega)
          obtain ⟨x0, x1, x2, x3⟩ := hat.get f2
          generalize parts[j] = x at *
          obtain ⟨xa, xb, xc, xd⟩ := x
          simp only [] at x0 x1 x2 x3 f5 hbd u1 u2 u3 u4 HB HC
          subst f5
          obtain ⟨bl, ol, rfl, y0⟩ := (hL.later hlw6).at_ f3
          rw [gL_eq f3] at f6
          rw [f6] at y0
          have b0 : wr.cell? ⟨g12, 0, none⟩ = some (.int .i64 lot) := hb6.cell (D12.cell 0)
          have b1 : wr.cell? ⟨g12, 1, none⟩ = some (.slice (some ⟨bx, ox, none⟩) parts.length pc') := hb6.cell (D12.cell 1)
          have z12 : g12 < wr.heap.size := World.block_lt_of_cell? _ _ b0
          have zx : bx < wr.heap.size := World.block_lt_of_cell? _ _ x0
          have zl : bl < wr.heap.size := World.block_lt_of_cell? _ _ y0
          have d1 : decide ((j : Int) < 0) = false := by simp
          have d2 : decide ((parts.length : Int) ≤ (j : Int)) = false := by simp; omega
          have d3 : decide ((n : Int) < 0) = false := by simp
          have d4 : decide ((lots.length : Int) ≤ (n : Int)) = false := by simp; omega
          have d5 : decide (lx < xd) = false := by simp; omega
          have d6 : decide (xd + xc - xb < lx + (hx - lx)) = false := by simp; omega
          have j0 : (0 : Int) ≤ (j : Int) := by omega
          have j1 : (j : Int) < (parts.length : Int) := by omega
          have n0 : (0 : Int) ≤ (n : Int) := by omega
          have n1' : (n : Int) < (lots.length : Int) := by omega
          obtain ⟨v1, v2, v3, v4, v5⟩ := hbd
          go_upto_region 18 with (first | (go_at_call 32; (with_reducible refine (HC.out _ hlw6 k3).mono ?_); rintro e w7 ⟨rfl, hb7⟩; have b0 := hb7.cell b0; have b1 := hb7.cell b1; have x0 := hb7.cell x0; have x1 := hb7.cell x1; have x2 := hb7.cell x2; have x3 := hb7.cell x3; have y0 := hb7.cell y0))
          have z12 := World.block_lt_of_cell? _ _ b0
          have zx := World.block_lt_of_cell? _ _ x0
          have zl := World.block_lt_of_cell? _ _ y0
          go_quiet (fail)
          go_upto_region 20 with fail
          refine name_world (fun W8 hW8 => ?_)
          have hl8 : Later w7 W8 := by rw [hW8]; exact (by repeat' (with_reducible first | exact Later.refl _ | assumption | refine Later.drew ?_ | refine Later.drewN ?_ _ | refine Later.alloc ?_ _ | refine Later.put ?_ (by omega) _ | refine Later.trans ?_ (by assumption)))
          clear hW8
          have b1 := hl8.cell b1
          have x0 := hl8.cell x0
          have x1 := hl8.cell x1
          have x2 := hl8.cell x2
          have x3 := hl8.cell x3
          have k38 : Pts W8 A6 q := k3.later (hb7.trans hl8)
          have z12 := World.block_lt_of_cell? _ _ b1
          have zx := World.block_lt_of_cell? _ _ x0
          go_wp2_with (first | (go_at_call 28; (with_reducible refine (HB.out _ k38).mono ?_); rintro e w9 ⟨rfl, hb9⟩; have b1 := hb9.cell b1; have x0 := hb9.cell x0; have x1 := hb9.cell x1; have x2 := hb9.cell x2; have x3 := hb9.cell x3; have zx := World.block_lt_of_cell? _ _ x0; have z12 := World.block_lt_of_cell? _ _ b1))
          go_roundw
          case rel => exact ⟨i + 1, by omega, by go_num, hb6.trans (hb7.trans (hl8.trans (hb9.trans (by repeat' (with_reducible first | exact Later.refl _ | assumption | refine Later.drew ?_ | refine Later.drewN ?_ _ | refine Later.alloc ?_ _ | refine Later.put ?_ (by omega) _ | refine Later.trans ?_ (by assumption))))))⟩
          case measure => simp [intOf]; omega
        · go_wp2
          go_roundw
          case rel => exact ⟨k + 1, by omega, by go_num, hb.trans (hl5.trans hb6)⟩
          case measure => simp [intOf]; omega
    · go_wp2_with (first | (go_at_call 30; refine (HX.out _).mono ?_; rintro e w9 ⟨rfl, hb9⟩))
      go_ret
      exact ⟨rfl, hlw.trans hb9⟩

set_option maxHeartbeats 4000000 in
set_option maxRecDepth 100000 in
theorem law39_DamageCarried_out (hex : ∀ W, Calls Try.prog 30 #[] W (Ret (.bool true) W)) (y : Ly) (C L Q : Option Addr) (cc lc qc : Nat) (rs : List Rl) (lots : List Int) (ps : List (List Pt)) (w : World)
    (hy : LyOk w y) (hr : Rolls w C rs) (hL : Ints w L lots) (hll : lots.length ≤ 9223372036854775807) (hp : Polys w Q ps) (hck : fewB y.ys rs ps = true → scheckR y.l y.w ps rs lots (y.ys.map Py.pl) ≠ 0) :
    Calls Try.prog 11 #[y.agg, .slice C rs.length cc, .slice L lots.length lc, .slice Q ps.length qc] w (Ret (.bool true) w) := by
  have HX := Lib.hid hex
  clear hex
  have HF := Lib.hid (fun W (hW : Later w W) => law39_few y C Q cc qc rs ps W (hy.later hW) (hr.later hW) (hp.later hW))
  rcases hf : fewB y.ys rs ps with _ | _
  · rw [hf] at HF
    clear hf hck
    unfold Ly.agg at HF ⊢
    obtain ⟨l0, l1, l2, l3, s1, n1, c1, s2, n2, c2, pa, pc, ys⟩ := y
    simp only [] at HF ⊢
    go_enter Try.func11, Try.ntmps11
    go_wp2_with (first | (go_at_call 29; (with_reducible refine (HF.out _ (by repeat' (with_reducible first | exact Later.refl _ | assumption | refine Later.drew ?_ | refine Later.drewN ?_ _ | refine Later.alloc ?_ _ | refine Later.put ?_ (by omega) _ | refine Later.trans ?_ (by assumption)))).mono ?_); rintro e w1 ⟨rfl, hb1⟩) | (go_at_call 30; refine (HX.out _).mono ?_; rintro e w2 ⟨rfl, hb2⟩))
    go_ret
    exact ⟨rfl, (by repeat' (with_reducible first | exact Later.refl _ | assumption | refine Later.drew ?_ | refine Later.drewN ?_ _ | refine Later.alloc ?_ _ | refine Later.put ?_ (by omega) _ | refine Later.trans ?_ (by assumption)))⟩
  · rw [hf] at HF
    obtain ⟨⟨h12, h6, h6'⟩, h1, _, h2⟩ := few_all hf
    have hc := hck hf
    clear hf hck
    have hparts2 : ∀ p ∈ y.ys, p.parts.length ≤ 1000 := fun p hp => by have := h1 p hp; omega
    have hpl : PtsOk ps := fun p hp => by have := h2 p hp; omega
    have HK := Lib.hid (fun W (hW : Later w W) => spread_Check Q C L y.s1 y.s2 y.pa qc cc lc y.n1 y.c1 y.n2 y.c2 y.pc y.l y.w y.rx y.ry ps rs lots y.ys W (hp.later hW) hpl (hr.later hW) (by omega) (hL.later hW) hll (hy.later hW).1 (by omega) hparts2)
    generalize scheckR y.l y.w ps rs lots (y.ys.map Py.pl) = er at *
    have dn : (er != 0) = true := by simpa using hc
    clear hc
    unfold Ly.agg at HF ⊢
    obtain ⟨l0, l1, l2, l3, s1, n1, c1, s2, n2, c2, pa, pc, ys⟩ := y
    simp only [] at HF HK ⊢
    go_enter Try.func11, Try.ntmps11
    go_wp2_with (first
      | (go_at_call 29; (with_reducible refine (HF.out _ (by repeat' (with_reducible first | exact Later.refl _ | assumption | refine Later.drew ?_ | refine Later.drewN ?_ _ | refine Later.alloc ?_ _ | refine Later.put ?_ (by omega) _ | refine Later.trans ?_ (by assumption)))).mono ?_); rintro e w1 ⟨rfl, hb1⟩; have D0 : Blk w1 w.heap.size 36 #[.int .i64 l0, .int .i64 l1, .int .i64 l2, .int .i64 l3, .slice s1 n1 c1, .slice s2 n2 c2, .slice pa ys.length pc] := Blk.later (by repeat' (with_reducible first | assumption | (refine Blk.newAt ?_; simp; done) | refine Blk.alloc ?_ _ | refine Blk.drew ?_ | refine Blk.drewN ?_ _ | refine Blk.later ?_ (by assumption))) hb1; have hl1 : Later w w1 := (by repeat' (with_reducible first | exact Later.refl _ | assumption | refine Later.drew ?_ | refine Later.drewN ?_ _ | refine Later.alloc ?_ _ | refine Later.put ?_ (by omega) _ | refine Later.trans ?_ (by assumption))); have p0 : w1.cell? ⟨w.heap.size, 0, none⟩ = some (.int .i64 l0) := D0.cell 0; have p1 : w1.cell? ⟨w.heap.size, 1, none⟩ = some (.int .i64 l1) := D0.cell 1; have p2 : w1.cell? ⟨w.heap.size, 2, none⟩ = some (.int .i64 l2) := D0.cell 2; have p3 : w1.cell? ⟨w.heap.size, 3, none⟩ = some (.int .i64 l3) := D0.cell 3; have p4 : w1.cell? ⟨w.heap.size, 4, none⟩ = some (.slice s1 n1 c1) := D0.cell 4; have p5 : w1.cell? ⟨w.heap.size, 5, none⟩ = some (.slice s2 n2 c2) := D0.cell 5; have p6 : w1.cell? ⟨w.heap.size, 6, none⟩ = some (.slice pa ys.length pc) := D0.cell 6; clear hb1)
      | (go_at_call 25; (with_reducible refine (HK.out _ hl1).mono ?_); rintro e w2 ⟨rfl, hb2⟩)
      | (go_at_call 30; refine (HX.out _).mono ?_; rintro e w5 ⟨rfl, hb5⟩))
    go_ret
    exact ⟨rfl, hl1.trans (hb2.trans hb5)⟩

theorem law39_DamageCarried (hex : ∀ W, Calls Try.prog 30 #[] W (Ret (.bool true) W)) (y : Ly) (C : Option Addr) (cc : Nat) (rs : List Rl) (L : Option Addr) (lc : Nat) (lots : List Int) (Q : Option Addr) (qc : Nat) (ps : List (List Pt)) (w : World)
    (hy : LyOk w y) (hr : rs.length ≤ cc ∧ cc ≤ maxLen ∧ Rolls w C rs) (hL : lots.length ≤ lc ∧ lc ≤ maxLen ∧ Ints w L lots ∧ ∀ n ∈ lots, I64 n) (hp : ps.length ≤ qc ∧ qc ≤ maxLen ∧ Polys w Q ps ∧ ∀ l ∈ ps, ∀ p ∈ l, I64 p.x ∧ I64 p.y) :
    Calls Try.prog 11 #[y.agg, .slice C rs.length cc, .slice L lots.length lc, .slice Q ps.length qc] w (Ret (.bool true) w) := by
  have hll : lots.length ≤ 9223372036854775807 := by have := hL.1; have := hL.2.1; unfold maxLen at *; omega
  by_cases h : fewB y.ys rs ps = true ∧ scheckR y.l y.w ps rs lots (y.ys.map Py.pl) = 0
  · exact law39_DamageCarried_in hex y C L Q cc lc qc rs lots ps w hy hr.2.2 hL.2.2.1 hll hp.2.2.1 h.1 h.2
  · exact law39_DamageCarried_out hex y C L Q cc lc qc rs lots ps w hy hr.2.2 hL.2.2.1 hll hp.2.2.1 (fun h1 h2 => h ⟨h1, h2⟩)

end Go.Proofs.Ytinjdlnikhcbfaa
