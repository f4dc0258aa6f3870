/-
  The reference of layer 30: Poly, Extent, Matched, Fits.
-/
import Derived.Test.YtolddfapanabbaaGreatRefV
import Derived.Test.YtolddfapanabbaaGreatRefV1
import Derived.Test.YtolddfapanabbaaGreatSimEq
import Derived.Test.YtolddfapanabbaaGreatEx30
import Derived.Test.YtolddfapanabbaaGreatRefH
namespace Go.Proofs.YtolddfapanabbaaGreat
open Go.RowKit
set_option linter.unusedSimpArgs false
set_option linter.unusedVariables false

theorem ref11_CheckI (A : Option Addr) (c : Nat) (ps : List Pt) (w : World) (hn : ps.length ≤ 1099511627776) (hcap : ps.length ≤ c) (hp : Pts w A ps) :
    Calls Tryz.prog 37 #[.slice A ps.length c] w (Ret (.int .i64 (checkI ps)) w) := by
  have h := ref11_Check A c ps w hn hcap hp
  rw [rcheck_eq] at h
  exact h

section
variable (C : Option Addr) (cc : Nat) (l : List Sh) (p : Pu) (w : World)
set_option maxHeartbeats 2000000 in
theorem ref30_Poly_range (hl : l.length ≤ 65536) (h : p.sh < 0 ∨ (l.length : Int) ≤ p.sh ∨ outsideB p.x p.y = true) :
    Calls Tryz.prog 23 #[.slice C l.length cc, p.agg] w (Ret (.tuple #[.slice none 0 0, .int .i64 3]) w) := by
  unfold Pu.agg
  obtain ⟨sh, fl, q, x, y⟩ := p
  simp only [] at h
  by_cases h1 : sh < 0
  · have d1 : decide (sh < 0) = true := by simpa using h1
    go_enter Tryz.func23, Tryz.ntmps23
    go_wp2
    go_ret2
    exact ⟨rfl, (by repeat' (with_reducible first | exact Later.refl _ | assumption | refine Later.drew ?_ | refine Later.drewN ?_ _ | refine Later.alloc ?_ _ | refine Later.put ?_ (by omega) _ | refine Later.trans ?_ (by assumption)))⟩
  · have d1 : decide (sh < 0) = false := by simpa using h1
    by_cases h2 : (l.length : Int) ≤ sh
    · have d2 : decide ((l.length : Int) ≤ sh) = true := by simpa using h2
      go_enter Tryz.func23, Tryz.ntmps23
      go_wp2
      go_ret2
      exact ⟨rfl, (by repeat' (with_reducible first | exact Later.refl _ | assumption | refine Later.drew ?_ | refine Later.drewN ?_ _ | refine Later.alloc ?_ _ | refine Later.put ?_ (by omega) _ | refine Later.trans ?_ (by assumption)))⟩
    · have d2 : decide ((l.length : Int) ≤ sh) = false := by simpa using h2
      have h3 : outsideB x y = true := by
        rcases h with h | h | h
        · exact absurd h h1
        · exact absurd h h2
        · exact h
      have HB := Lib.hid (fun W => ref30_Near x y W)
      rw [h3, Bool.not_true] at HB
      clear h h3
      go_enter Tryz.func23, Tryz.ntmps23
      go_wp2_with (first | (go_at_call 36; (with_reducible refine (HB.out _).mono ?_); rintro e w1 ⟨rfl, hb1⟩))
      go_ret2
      exact ⟨rfl, (by repeat' (with_reducible first | exact Later.refl _ | assumption | refine Later.drew ?_ | refine Later.drewN ?_ _ | refine Later.alloc ?_ _ | refine Later.put ?_ (by omega) _ | refine Later.trans ?_ (by assumption)))⟩

set_option maxHeartbeats 4000000 in
theorem ref30_Poly_in (hs : Shapes w C l) (hl : l.length ≤ 65536) (k : Nat) (hk : k < l.length) (hsh : p.sh = (k : Int)) (ho : outsideB p.x p.y = false) (hlen : (l[k]).ps.length ≤ 1099511627776) :
    Calls Tryz.prog 23 #[.slice C l.length cc, p.agg] w (PolyPost (if checkI (l[k]).ps ≠ 0 then ([], checkI (l[k]).ps) else if checkI (placedPs p (l[k]).ps) ≠ 0 then ([], checkI (placedPs p (l[k]).ps)) else (placedPs p (l[k]).ps, 0)) w) := by
  have HB := Lib.hid (fun W => ref30_Near p.x p.y W)
  rw [ho, Bool.not_false] at HB
  have hnr := outside_near ho
  unfold Pu.agg
  obtain ⟨sh, fl, q, x, y⟩ := p
  simp only [] at hsh HB hnr
  subst hsh
  obtain ⟨b, o, rfl, e0, _, _, _, _, hok⟩ := hs.at_ hk
  obtain ⟨h1, h2, h3, _⟩ := hok
  generalize l[k] = s at *
  obtain ⟨pa, pc, ps, gr, mt, ax, ay⟩ := s
  simp only [] at e0 h1 h2 h3 hlen
  have d1 : decide ((k : Int) < 0) = false := by simp
  have d2 : decide (l.length ≤ k) = false := by simp; omega
  have hk0 : (0 : Int) ≤ (k : Int) := by omega
  have hk1 : (k : Int) < (l.length : Int) := by omega
  have hbz0 : b < w.heap.size := World.block_lt_of_cell? _ _ e0
  have HC := Lib.hid (fun W (hW : Pts W pa ps) => ref11_CheckI pa pc ps W hlen h1 hW)
  show Calls _ _ _ _ (PolyPost (if checkI ps ≠ 0 then ([], checkI ps) else if checkI (placedPs ⟨(k : Int), fl, q, x, y⟩ ps) ≠ 0 then ([], checkI (placedPs ⟨(k : Int), fl, q, x, y⟩ ps)) else (placedPs ⟨(k : Int), fl, q, x, y⟩ ps, 0)) w)
  rcases Classical.em (checkI ps = 0) with hc | hc
  · have hps := near_of_check hc
    have h40 := len_of_check hc
    rw [if_neg (by simpa using hc)]
    rw [hc] at HC
    have HT := Lib.hid (fun W (hW : Pts W pa ps) => ref12_Poly fl q pa pc ps W (by omega) hW hps)
    have htn := turnPs_near (f := fl) (q := q) hps
    have htl := turnPs_len fl q ps
    have HM := Lib.hid (fun A1 c1 W (hW : Pts W A1 (turnPs fl q ps)) => ref11_Move A1 c1 (turnPs fl q ps) x y W (by rw [htl]; omega) hW htn hnr)
    have hpl : (placedPs ⟨(k : Int), fl, q, x, y⟩ ps).length ≤ 40 := by unfold placedPs; rw [List.length_map, htl]; exact h40
    have HM' : ∀ A1 c1 W, Pts W A1 (turnPs fl q ps) → Calls Tryz.prog 38 #[.slice A1 (turnPs fl q ps).length c1, .agg #[.int .i64 x, .int .i64 y]] W (RetPts (placedPs ⟨(k : Int), fl, q, x, y⟩ ps) W) := fun A1 c1 W h => HM.out A1 c1 W h
    have HM2 := Lib.hid HM'
    clear HM HM' hc htn htl
    generalize placedPs ⟨(k : Int), fl, q, x, y⟩ ps = r at *
    generalize turnPs fl q ps = t at *
    have HC2 := Lib.hid (fun A1 c1 W (h1 : r.length ≤ c1) (hW : Pts W A1 r) => ref11_CheckI A1 c1 r W (by omega) h1 hW)
    rcases Classical.em (checkI r = 0) with hc2 | hc2
    · rw [if_neg (by simpa using hc2)]
      rw [hc2] at HC2
      clear hc2
      go_enter Tryz.func23, Tryz.ntmps23
      go_upto_region 7 with (first | (go_at_call 36; (with_reducible refine (HB.out _).mono ?_); rintro e w1 ⟨rfl, hb1⟩; have e1 : w1.cell? ⟨b, o + k * 5, none⟩ = some (.slice pa ps.length pc) := hb1.cell (Later.cell ((Later.refl w).alloc _) e0); have c0 : w1.cell? ⟨w.heap.size, 0, none⟩ = some (.int .i64 k) := hb1.cell (by simp [go_sem]); have c1 : w1.cell? ⟨w.heap.size, 1, none⟩ = some (.bool fl) := hb1.cell (by simp [go_sem]); have c2 : w1.cell? ⟨w.heap.size, 2, none⟩ = some (.int .i64 q) := hb1.cell (by simp [go_sem]); have c3 : w1.cell? ⟨w.heap.size, 3, none⟩ = some (.int .i64 x) := hb1.cell (by simp [go_sem]); have c4 : w1.cell? ⟨w.heap.size, 4, none⟩ = some (.int .i64 y) := hb1.cell (by simp [go_sem]); have hbz : b < w1.heap.size := World.block_lt_of_cell? _ _ e1) | (go_at_call 37; (with_reducible refine (HC.out _ (h3.later (by repeat' (with_reducible first | exact Later.refl _ | assumption | refine Later.drew ?_ | refine Later.drewN ?_ _ | refine Later.alloc ?_ _ | refine Later.put ?_ (by omega) _ | refine Later.trans ?_ (by assumption))))).mono ?_); rintro e w2 ⟨rfl, hb2⟩))
      have hl2 : Later w w2 := (by repeat' (with_reducible first | exact Later.refl _ | assumption | refine Later.drew ?_ | refine Later.drewN ?_ _ | refine Later.alloc ?_ _ | refine Later.put ?_ (by omega) _ | refine Later.trans ?_ (by assumption)))
      have m1 := hb2.cell c1
      have m2 := hb2.cell c2
      have m3 := hb2.cell c3
      have m4 := hb2.cell c4
      have hp2 := h3.later hl2
      clear e1 c0 c1 c2 c3 c4 hb1 hb2
      go_region_held3 (fun w' : World => (∀ a : Addr, (w2.cell? a).isSome = true → w'.cell? a = w2.cell? a) ∧ Later w2 w') (first | assumption | exact keep_call (by assumption) (by assumption) | exact keep_call (by assumption) ((Later.refl _).alloc _) | exact keep_init _)
        (first | (go_at_call 39; (with_reducible refine (HT.out _ (hp2.later (by (have hk := (by assumption : _ ∧ Later w2 _).2); exact hk))).mono ?_); rintro e w3 ⟨A3, c3, rfl, g1, g2, g3, hb3⟩) | (go_at_call 38; (with_reducible refine (HM2.out _ _ _ g3).mono ?_); rintro e w4 ⟨A4, c4, rfl, g4, g5, g6, hb4⟩))
      rename_i hHw
      have hl4 := hl2.trans hHw.2
      clear hHw m1 m2 m3 m4
      go_wp2_with (first | (go_at_call 37; (with_reducible refine (HC2.out _ _ _ g4 g6).mono ?_); rintro e w5 ⟨rfl, hb5⟩))
      go_ret2
      exact .inl ⟨rfl, A4, c4, rfl, g4, g5, g6.later hb5, hl4.trans hb5⟩
    · rw [if_pos hc2]
      have h0 : (checkI r != 0) = true := by simpa using hc2
      have Hc2 := Lib.hid hc2
      clear hc2
      generalize checkI r = er at *
      go_enter Tryz.func23, Tryz.ntmps23
      go_upto_region 7 with (first | (go_at_call 36; (with_reducible refine (HB.out _).mono ?_); rintro e w1 ⟨rfl, hb1⟩; have e1 : w1.cell? ⟨b, o + k * 5, none⟩ = some (.slice pa ps.length pc) := hb1.cell (Later.cell ((Later.refl w).alloc _) e0); have c0 : w1.cell? ⟨w.heap.size, 0, none⟩ = some (.int .i64 k) := hb1.cell (by simp [go_sem]); have c1 : w1.cell? ⟨w.heap.size, 1, none⟩ = some (.bool fl) := hb1.cell (by simp [go_sem]); have c2 : w1.cell? ⟨w.heap.size, 2, none⟩ = some (.int .i64 q) := hb1.cell (by simp [go_sem]); have c3 : w1.cell? ⟨w.heap.size, 3, none⟩ = some (.int .i64 x) := hb1.cell (by simp [go_sem]); have c4 : w1.cell? ⟨w.heap.size, 4, none⟩ = some (.int .i64 y) := hb1.cell (by simp [go_sem]); have hbz : b < w1.heap.size := World.block_lt_of_cell? _ _ e1) | (go_at_call 37; (with_reducible refine (HC.out _ (h3.later (by repeat' (with_reducible first | exact Later.refl _ | assumption | refine Later.drew ?_ | refine Later.drewN ?_ _ | refine Later.alloc ?_ _ | refine Later.put ?_ (by omega) _ | refine Later.trans ?_ (by assumption))))).mono ?_); rintro e w2 ⟨rfl, hb2⟩))
      have hl2 : Later w w2 := (by repeat' (with_reducible first | exact Later.refl _ | assumption | refine Later.drew ?_ | refine Later.drewN ?_ _ | refine Later.alloc ?_ _ | refine Later.put ?_ (by omega) _ | refine Later.trans ?_ (by assumption)))
      have m1 := hb2.cell c1
      have m2 := hb2.cell c2
      have m3 := hb2.cell c3
      have m4 := hb2.cell c4
      have hp2 := h3.later hl2
      clear e1 c0 c1 c2 c3 c4 hb1 hb2
      go_region_held3 (fun w' : World => (∀ a : Addr, (w2.cell? a).isSome = true → w'.cell? a = w2.cell? a) ∧ Later w2 w') (first | assumption | exact keep_call (by assumption) (by assumption) | exact keep_call (by assumption) ((Later.refl _).alloc _) | exact keep_init _)
        (first | (go_at_call 39; (with_reducible refine (HT.out _ (hp2.later (by (have hk := (by assumption : _ ∧ Later w2 _).2); exact hk))).mono ?_); rintro e w3 ⟨A3, c3, rfl, g1, g2, g3, hb3⟩) | (go_at_call 38; (with_reducible refine (HM2.out _ _ _ g3).mono ?_); rintro e w4 ⟨A4, c4, rfl, g4, g5, g6, hb4⟩))
      rename_i hHw
      have hl4 := hl2.trans hHw.2
      clear hHw m1 m2 m3 m4
      go_wp2_with (first | (go_at_call 37; (with_reducible refine (HC2.out _ _ _ g4 g6).mono ?_); rintro e w5 ⟨rfl, hb5⟩))
      go_ret2
      exact .inr ⟨Hc2.out, rfl, hl4.trans hb5⟩
  · rw [if_pos hc]
    have h0 : (checkI ps != 0) = true := by simpa using hc
    have Hc := Lib.hid hc
    clear hc
    generalize checkI ps = er at *
    go_enter Tryz.func23, Tryz.ntmps23
    go_wp2_with (first | (go_at_call 36; (with_reducible refine (HB.out _).mono ?_); rintro e w1 ⟨rfl, hb1⟩; have e1 : w1.cell? ⟨b, o + k * 5, none⟩ = some (.slice pa ps.length pc) := hb1.cell (Later.cell ((Later.refl w).alloc _) e0); have c0 : w1.cell? ⟨w.heap.size, 0, none⟩ = some (.int .i64 k) := hb1.cell (by simp [go_sem]); have hbz : b < w1.heap.size := World.block_lt_of_cell? _ _ e1) | (go_at_call 37; (with_reducible refine (HC.out _ (h3.later (by repeat' (with_reducible first | exact Later.refl _ | assumption | refine Later.drew ?_ | refine Later.drewN ?_ _ | refine Later.alloc ?_ _ | refine Later.put ?_ (by omega) _ | refine Later.trans ?_ (by assumption))))).mono ?_); rintro e w2 ⟨rfl, hb2⟩))
    go_ret2
    exact .inr ⟨Hc.out, rfl, (by repeat' (with_reducible first | exact Later.refl _ | assumption | refine Later.drew ?_ | refine Later.drewN ?_ _ | refine Later.alloc ?_ _ | refine Later.put ?_ (by omega) _ | refine Later.trans ?_ (by assumption)))⟩

theorem ref30_Poly (hs : Shapes w C l) (hl : l.length ≤ 65536) (hlen : ∀ s ∈ l, s.ps.length ≤ 1099511627776) :
    Calls Tryz.prog 23 #[.slice C l.length cc, p.agg] w (PolyPost (polyR l p) w) := by
  unfold polyR
  by_cases h : p.sh < 0 ∨ (l.length : Int) ≤ p.sh ∨ outsideB p.x p.y = true
  · rw [if_pos h]
    exact (ref30_Poly_range C cc l p w hl h).mono fun e w' ⟨he, hw⟩ => .inr ⟨by decide, he, hw⟩
  · rw [if_neg h]
    have hk : p.sh.toNat < l.length := by omega
    have hg : gs l p.sh.toNat = l[p.sh.toNat] := by rw [gs]; simp [hk]
    rw [hg]
    refine ref30_Poly_in C cc l p w hs hl p.sh.toNat hk (by omega) ?_ (hlen _ (List.getElem_mem hk))
    rcases ho : outsideB p.x p.y with _ | _
    · rfl
    · exact absurd (.inr (.inr ho)) h
end


section
variable (C : Option Addr) (cc : Nat) (l : List Sh) (p : Pu) (w : World)
theorem ref30_Poly_yes (hs : Shapes w C l) (hl : l.length ≤ 65536) (hlen : ∀ s ∈ l, s.ps.length ≤ 1099511627776) (h : (polyR l p).2 = 0) :
    Calls Tryz.prog 23 #[.slice C l.length cc, p.agg] w (PolyOk (polyR l p).1 w) :=
  (ref30_Poly C cc l p w hs hl hlen).mono fun e w' hh => by
    rcases hh with ⟨_, A, c, h1, h2, h3, h4, h5⟩ | ⟨h1, _⟩
    · exact ⟨A, c, h1, h2, h3, h4, h5⟩
    · exact absurd h h1
theorem ref30_Poly_no (hs : Shapes w C l) (hl : l.length ≤ 65536) (hlen : ∀ s ∈ l, s.ps.length ≤ 1099511627776) (h : (polyR l p).2 ≠ 0) :
    Calls Tryz.prog 23 #[.slice C l.length cc, p.agg] w (Ret (.tuple #[.slice none 0 0, .int .i64 (polyR l p).2]) w) :=
  (ref30_Poly C cc l p w hs hl hlen).mono fun e w' hh => by
    rcases hh with ⟨h1, _⟩ | ⟨_, h1, h2⟩
    · exact absurd h1 h
    · exact ⟨h1, h2⟩
end

def matchedB (rx ry : Int) (s : Sh) (p : Pu) : Bool := if s.mt = true then matchB rx ry s.ax s.ay p else true
def Sh.agg (s : Sh) : Value := .agg #[.slice s.pa s.ps.length s.pc, .int .i64 s.gr, .bool s.mt, .int .i64 s.ax, .int .i64 s.ay]
@[go_sem] theorem build_spot0 (w : World) : (Instr.build 37 #[]).run Tryz.prog w = .ok (.agg #[.int .i64 0, .int .i64 0]) w := run_build w 37 _ _ (by kernel_rfl)
set_option maxHeartbeats 4000000 in
theorem ref30_Matched (rx ry : Int) (s : Sh) (p : Pu) (w : World) (hp : NearP 1048576 ⟨p.x, p.y⟩) :
    Calls Tryz.prog 26 #[.agg #[.int .i64 rx, .int .i64 ry], s.agg, p.agg] w (Ret (.bool (matchedB rx ry s p)) w) := by
  obtain ⟨spa, spc, sps, gr, mt, ax, ay⟩ := s
  unfold Sh.agg matchedB
  simp only []
  cases mt
  · rw [if_neg (by simp)]
    obtain ⟨sh, fl, q, x, y⟩ := p
    unfold Pu.agg
    go_enter Tryz.func26, Tryz.ntmps26
    go_wp2
    go_ret
    exact ⟨rfl, (by repeat' (with_reducible first | exact Later.refl _ | assumption | refine Later.drew ?_ | refine Later.drewN ?_ _ | refine Later.alloc ?_ _ | refine Later.put ?_ (by omega) _ | refine Later.trans ?_ (by assumption)))⟩
  rw [if_pos rfl]
  have HB := Lib.hid (fun W => ref30_Near ax ay W)
  unfold Pu.agg
  rcases ho : outsideB ax ay with _ | _
  · have hn := outside_near ho
    have hap := apply_near (f := p.fl) (q := p.q) hn
    have HA := Lib.hid (fun W => ref12_Apply p.fl p.q ax ay W hn)
    have Hm := Lib.hid (show matchB rx ry ax ay p = (!outsideB (imageP ax ay p).x (imageP ax ay p).y && sameP rx ry (imageP ax ay p) ⟨0, 0⟩) by unfold matchB; rw [ho]; rfl)
    unfold imageP mvP at Hm
    generalize applyP p.fl p.q ⟨ax, ay⟩ = im at *
    obtain ⟨ix, iy⟩ := im
    obtain ⟨sh, fl, q, x, y⟩ := p
    unfold ptV at HA
    unfold NearP at hap hp
    simp only [] at HA hap hp Hm
    have HB2 := Lib.hid (fun W => ref30_Near (ix + x) (iy + y) W)
    have HS := Lib.hid (fun W => ref28_Same rx ry (ix + x) (iy + y) 0 0 W)
    rw [ho, Bool.not_false] at HB
    generalize matchB rx ry ax ay ⟨sh, fl, q, x, y⟩ = mv at *
    generalize (!outsideB (ix + x) (iy + y)) = ob at *
    generalize sameP rx ry ⟨ix + x, iy + y⟩ ⟨0, 0⟩ = sb at *
    clear ho hn
    have x1 : IntKind.i64.wrap (ix + x) = ix + x := IntWalk.i64_in _ (by omega)
    have x2 : IntKind.i64.wrap (iy + y) = iy + y := IntWalk.i64_in _ (by omega)
    go_enter Tryz.func26, Tryz.ntmps26
    go_upto_region 5 with (first | (go_at_call 36; (with_reducible refine (HB.out _).mono ?_); rintro e w1 ⟨rfl, hb1⟩))
    have C0 : Blk w1 w.heap.size 23 #[.int .i64 rx, .int .i64 ry] := Blk.later (by repeat' (with_reducible first | assumption | (refine Blk.newAt ?_; simp; done) | refine Blk.alloc ?_ _ | refine Blk.drew ?_ | refine Blk.drewN ?_ _ | refine Blk.later ?_ (by assumption))) hb1
    have C1 : Blk w1 (w.heap.size + 1) 39 #[.slice spa sps.length spc, .int .i64 gr, .bool true, .int .i64 ax, .int .i64 ay] := Blk.later (by repeat' (with_reducible first | assumption | (refine Blk.newAt ?_; simp; done) | refine Blk.alloc ?_ _ | refine Blk.drew ?_ | refine Blk.drewN ?_ _ | refine Blk.later ?_ (by assumption))) hb1
    have C2 : Blk w1 (w.heap.size + 1 + 1) 43 #[.int .i64 sh, .bool fl, .int .i64 q, .int .i64 x, .int .i64 y] := Blk.later (by repeat' (with_reducible first | assumption | (refine Blk.newAt ?_; simp; done) | refine Blk.alloc ?_ _ | refine Blk.drew ?_ | refine Blk.drewN ?_ _ | refine Blk.later ?_ (by assumption))) hb1
    have hl1 : Later w w1 := (by repeat' (with_reducible first | exact Later.refl _ | assumption | refine Later.drew ?_ | refine Later.drewN ?_ _ | refine Later.alloc ?_ _ | refine Later.put ?_ (by omega) _ | refine Later.trans ?_ (by assumption)))
    clear hb1
    generalize w.heap.size = N at *
    have a0 : w1.cell? ⟨N + 1, 3, none⟩ = some (.int .i64 ax) := C1.cell 3
    have a1 : w1.cell? ⟨N + 1, 4, none⟩ = some (.int .i64 ay) := C1.cell 4
    have b1 : w1.cell? ⟨N + 1 + 1, 1, none⟩ = some (.bool fl) := C2.cell 1
    have b2 : w1.cell? ⟨N + 1 + 1, 2, none⟩ = some (.int .i64 q) := C2.cell 2
    go_upto_region 6 with (first | (go_at_call 41; (with_reducible refine (HA.out _).mono ?_); rintro e w2 ⟨rfl, hb2⟩))
    clear a0 a1 b1 b2
    have b3 : w2.cell? ⟨N + 1 + 1, 3, none⟩ = some (.int .i64 x) := hb2.cell (C2.cell 3)
    have b4 : w2.cell? ⟨N + 1 + 1, 4, none⟩ = some (.int .i64 y) := hb2.cell (C2.cell 4)
    have z2 : N + 1 + 1 < w2.heap.size := World.block_lt_of_cell? _ _ b3
    go_upto_region 7 with fail
    refine name_world (fun W5 hW5 => ?_)
    have hl5 : Later w2 W5 := by rw [hW5]; exact (by repeat' (with_reducible first | exact Later.refl _ | assumption | refine Later.drew ?_ | refine Later.drewN ?_ _ | refine Later.alloc ?_ _ | refine Later.put ?_ (by omega) _ | refine Later.trans ?_ (by assumption)))
    have I5 : Blk W5 (w2.heap.size + 1) 37 #[.int .i64 (ix + x), .int .i64 (iy + y)] := by rw [hW5]; exact (by repeat' (with_reducible first | assumption | (refine Blk.newAt ?_; simp; done) | refine Blk.alloc ?_ _ | refine Blk.drew ?_ | refine Blk.drewN ?_ _ | refine Blk.later ?_ (by assumption)))
    have D0 : Blk W5 N 23 #[.int .i64 rx, .int .i64 ry] := (C0.later hb2).later hl5
    have hlw : Later w W5 := (hl1.trans hb2).trans hl5
    clear hW5 b3 b4 z2 C0 C1 C2 hb2 hl1 hl5
    generalize w2.heap.size + 1 = M at *
    have i0 : W5.cell? ⟨M, 0, none⟩ = some (.int .i64 (ix + x)) := I5.cell 0
    have i1 : W5.cell? ⟨M, 1, none⟩ = some (.int .i64 (iy + y)) := I5.cell 1
    cases ob
    · go_wp2_with (first | (go_at_call 36; (with_reducible refine (HB2.out _).mono ?_); rintro e w3 ⟨rfl, hb3⟩))
      go_ret
      exact ⟨ret_bool (by rw [Hm.out]; rfl), (by repeat' (with_reducible first | exact Later.refl _ | assumption | refine Later.drew ?_ | refine Later.drewN ?_ _ | refine Later.alloc ?_ _ | refine Later.put ?_ (by omega) _ | refine Later.trans ?_ (by assumption)))⟩
    · go_wp2_with (first | (go_at_call 36; (with_reducible refine (HB2.out _).mono ?_); rintro e w3 ⟨rfl, hb3⟩; have d0 : w3.cell? ⟨N, 0, none⟩ = some (.int .i64 rx) := hb3.cell (D0.cell 0); have d1 : w3.cell? ⟨N, 1, none⟩ = some (.int .i64 ry) := hb3.cell (D0.cell 1); have k0 := hb3.cell i0; have k1 := hb3.cell i1) | (go_at_call 42; (with_reducible refine (HS.out _).mono ?_); rintro e w4 ⟨rfl, hb4⟩))
      go_ret
      exact ⟨ret_bool (by rw [Hm.out]; rfl), (by repeat' (with_reducible first | exact Later.refl _ | assumption | refine Later.drew ?_ | refine Later.drewN ?_ _ | refine Later.alloc ?_ _ | refine Later.put ?_ (by omega) _ | refine Later.trans ?_ (by assumption)))⟩
  · rw [ho, Bool.not_true] at HB
    have Hm := Lib.hid (show matchB rx ry ax ay p = false by unfold matchB; rw [if_pos ho])
    clear ho
    generalize matchB rx ry ax ay p = mv at *
    obtain ⟨sh, fl, q, x, y⟩ := p
    go_enter Tryz.func26, Tryz.ntmps26
    go_wp2_with (first | (go_at_call 36; (with_reducible refine (HB.out _).mono ?_); rintro e w1 ⟨rfl, hb1⟩))
    go_ret
    exact ⟨ret_bool (by rw [Hm.out]), (by repeat' (with_reducible first | exact Later.refl _ | assumption | refine Later.drew ?_ | refine Later.drewN ?_ _ | refine Later.alloc ?_ _ | refine Later.put ?_ (by omega) _ | refine Later.trans ?_ (by assumption)))⟩

end Go.Proofs.YtolddfapanabbaaGreat
