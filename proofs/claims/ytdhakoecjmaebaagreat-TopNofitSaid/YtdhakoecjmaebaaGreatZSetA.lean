/-
  The walks of fill.settle and fill.places.
-/
import Derived.Test.YtdhakoecjmaebaaGreatZBagP
import Derived.Test.YtdhakoecjmaebaaGreatZFits
namespace Go.Proofs.YtdhakoecjmaebaaGreat
open Go.RowKit Go.Lib
set_option linter.unusedSimpArgs false
set_option linter.unusedVariables false

/-- What settle returns. -/
def optV : Option Pt → Value
  | some a => .tuple #[.agg #[.int .i64 a.x, .int .i64 a.y], .bool true]
  | none => .tuple #[.agg #[.int .i64 0, .int .i64 0], .bool false]
def Sh.agg (s : Sh) : Value := .agg #[.slice s.pa s.ps.length s.pc, .int .i64 s.gr, .bool s.mt, .int .i64 s.ax, .int .i64 s.ay]
theorem next_bd {p a : Int} (hp : 0 ≤ p ∧ p ≤ 1048576) (ha : -1048576 ≤ a ∧ a ≤ 1048576) : -1048576 ≤ nextI p a 0 ∧ nextI p a 0 ≤ 2097152 := by
  have := mod_bd (n := 0 - a) hp.1 hp.2
  unfold nextI
  omega
theorem nextP_bd (rx ry : Int) (p : Pt) : (-1048576 ≤ (nextP rx ry p ⟨0, 0⟩).x ∧ (nextP rx ry p ⟨0, 0⟩).x ≤ 2097152) ∧ -1048576 ≤ (nextP rx ry p ⟨0, 0⟩).y ∧ (nextP rx ry p ⟨0, 0⟩).y ≤ 2097152 := by
  unfold nextP
  have l0 : limI 0 = 0 := rfl
  simp only [l0]
  exact ⟨next_bd (period_bd rx) (lim_bd _), next_bd (period_bd ry) (lim_bd _)⟩
theorem not_out {x y : Int} (h : outsideB x y = false) : NearP 1048576 ⟨x, y⟩ := by
  unfold outsideB at h
  simp only [Bool.or_eq_false_iff, decide_eq_false_iff_not] at h
  unfold NearP
  simp only []
  omega
/-- A place that comes out of settle is small. -/
theorem settle_near {rx ry : Int} {s : Sh} {f : Bool} {q : Int} {p a : Pt} (h : settleR rx ry s f q p = some a) (hp : NearP 4194304 p) : NearP 4194304 a := by
  unfold settleR at h
  split at h
  · cases h; exact hp
  · split at h
    · cases h
    · split at h
      · cases h
      · rename_i h1 h2 h3
        cases h
        have ha := apply_near (f := f) (q := q) (not_out (by simpa using h2))
        obtain ⟨b1, b2⟩ := nextP_bd rx ry ⟨(applyP f q ⟨s.ax, s.ay⟩).x + p.x, (applyP f q ⟨s.ax, s.ay⟩).y + p.y⟩
        unfold NearP at *
        simp only [] at *
        omega
@[go_sem] theorem build_spot0 (w : World) : (Instr.build 29 #[]).run Tryz.prog w = .ok (.agg #[.int .i64 0, .int .i64 0]) w := run_build w 29 _ _ (by kernel_rfl)
set_option maxHeartbeats 4000000 in
set_option maxRecDepth 100000 in
theorem fill_settle (rx ry : Int) (s : Sh) (f : Bool) (q : Int) (p : Pt) (w : World) (hp : NearP 4194304 p) :
    Calls Tryz.prog 89 #[.agg #[.int .i64 rx, .int .i64 ry], s.agg, .agg #[.bool f, .int .i64 q], .agg #[.int .i64 p.x, .int .i64 p.y]] w (Ret (optV (settleR rx ry s f q p)) w) := by
  have HD := Lib.hid (show settleR rx ry s f q p = if s.mt = false then some p else if outsideB s.ax s.ay = true then none else if outsideB ((applyP f q ⟨s.ax, s.ay⟩).x + p.x) ((applyP f q ⟨s.ax, s.ay⟩).y + p.y) = true then none
    else some ⟨(nextP rx ry ⟨(applyP f q ⟨s.ax, s.ay⟩).x + p.x, (applyP f q ⟨s.ax, s.ay⟩).y + p.y⟩ ⟨0, 0⟩).x - (applyP f q ⟨s.ax, s.ay⟩).x, (nextP rx ry ⟨(applyP f q ⟨s.ax, s.ay⟩).x + p.x, (applyP f q ⟨s.ax, s.ay⟩).y + p.y⟩ ⟨0, 0⟩).y - (applyP f q ⟨s.ax, s.ay⟩).y⟩ from rfl)
  generalize settleR rx ry s f q p = R at *
  obtain ⟨pa, pc, ps, gr, mt, ax, ay⟩ := s
  obtain ⟨px, py⟩ := p
  unfold NearP at hp
  unfold Sh.agg
  simp only [] at HD hp ⊢
  rcases mt with _ | _
  · have HR := Lib.hid (show R = some ⟨px, py⟩ by rw [HD.out, if_pos rfl])
    clear HD
    go_enter Tryz.func89, Tryz.ntmps89
    go_upto_region 2 with fail
    refine name_world (fun W hW => ?_)
    have hl : Later w W := by rw [hW]; exact (by repeat' (with_reducible first | exact Later.refl _ | assumption | refine Later.drew ?_ | refine Later.drewN ?_ _ | refine Later.alloc ?_ _ | refine Later.put ?_ (by omega) _ | refine Later.trans ?_ (by assumption)))
    have B3 : Blk W (w.heap.size + 1 + 1 + 1) 29 #[.int .i64 px, .int .i64 py] := by rw [hW]; exact (by repeat' (with_reducible first | assumption | (refine Blk.newAt ?_; simp; done) | refine Blk.alloc ?_ _ | refine Blk.drew ?_ | refine Blk.drewN ?_ _ | refine Blk.later ?_ (by assumption)))
    have B4 : Blk W (w.heap.size + 1 + 1 + 1 + 1) 29 #[.int .i64 0, .int .i64 0] := by rw [hW]; exact (by repeat' (with_reducible first | assumption | (refine Blk.newAt ?_; simp; done) | refine Blk.alloc ?_ _ | refine Blk.drew ?_ | refine Blk.drewN ?_ _ | refine Blk.later ?_ (by assumption)))
    clear hW
    have c0 : W.cell? ⟨w.heap.size + 1 + 1 + 1, 0, none⟩ = some (.int .i64 px) := B3.cell 0
    have c1 : W.cell? ⟨w.heap.size + 1 + 1 + 1, 1, none⟩ = some (.int .i64 py) := B3.cell 1
    have r0 : W.cell? ⟨w.heap.size + 1 + 1 + 1 + 1, 0, none⟩ = some (.int .i64 0) := B4.cell 0
    have r1 : W.cell? ⟨w.heap.size + 1 + 1 + 1 + 1, 1, none⟩ = some (.int .i64 0) := B4.cell 1
    have f0 := B4.frozen 0
    have f1 := B4.frozen 1
    have z3 := B3.lt
    have z4 := B4.lt
    go_wp2
    refine bodyPost_ret (v := .tuple #[.agg #[.int .i64 px, .int .i64 py], .bool true]) (by simp [results, Tryz.results89, go_sem, r0, r1]) rfl ⟨by rw [HR.out]; rfl, ?_⟩
    exact (hl.put (by omega) _).put (by omega) _
  · by_cases h2 : outsideB ax ay = true
    · have HR := Lib.hid (show R = none by rw [HD.out, if_neg (by simp), if_pos h2])
      have HB := Lib.hid (fun W => fill_beyond ax ay W)
      rw [h2] at HB
      clear HD
      go_enter Tryz.func89, Tryz.ntmps89
      go_upto_region 3 with fail
      refine name_world (fun W hW => ?_)
      have hl : Later w W := by rw [hW]; exact (by repeat' (with_reducible first | exact Later.refl _ | assumption | refine Later.drew ?_ | refine Later.drewN ?_ _ | refine Later.alloc ?_ _ | refine Later.put ?_ (by omega) _ | refine Later.trans ?_ (by assumption)))
      have B0 : Blk W w.heap.size 23 #[.int .i64 rx, .int .i64 ry] := by rw [hW]; exact (by repeat' (with_reducible first | assumption | (refine Blk.newAt ?_; simp; done) | refine Blk.alloc ?_ _ | refine Blk.drew ?_ | refine Blk.drewN ?_ _ | refine Blk.later ?_ (by assumption)))
      have B1 : Blk W (w.heap.size + 1) 31 #[.slice pa ps.length pc, .int .i64 gr, .bool true, .int .i64 ax, .int .i64 ay] := by rw [hW]; exact (by repeat' (with_reducible first | assumption | (refine Blk.newAt ?_; simp; done) | refine Blk.alloc ?_ _ | refine Blk.drew ?_ | refine Blk.drewN ?_ _ | refine Blk.later ?_ (by assumption)))
      have B2 : Blk W (w.heap.size + 1 + 1) 42 #[.bool f, .int .i64 q] := by rw [hW]; exact (by repeat' (with_reducible first | assumption | (refine Blk.newAt ?_; simp; done) | refine Blk.alloc ?_ _ | refine Blk.drew ?_ | refine Blk.drewN ?_ _ | refine Blk.later ?_ (by assumption)))
      have B3 : Blk W (w.heap.size + 1 + 1 + 1) 29 #[.int .i64 px, .int .i64 py] := by rw [hW]; exact (by repeat' (with_reducible first | assumption | (refine Blk.newAt ?_; simp; done) | refine Blk.alloc ?_ _ | refine Blk.drew ?_ | refine Blk.drewN ?_ _ | refine Blk.later ?_ (by assumption)))
      have B4 : Blk W (w.heap.size + 1 + 1 + 1 + 1) 29 #[.int .i64 0, .int .i64 0] := by rw [hW]; exact (by repeat' (with_reducible first | assumption | (refine Blk.newAt ?_; simp; done) | refine Blk.alloc ?_ _ | refine Blk.drew ?_ | refine Blk.drewN ?_ _ | refine Blk.later ?_ (by assumption)))
      clear hW
      generalize hg0 : w.heap.size = g0 at B0 B1 B2 B3 B4 ⊢
      generalize hgr : g0 + 1 + 1 + 1 + 1 = gr_ at *
      have hg4 : w.heap.size ≤ gr_ := by omega
      have ne0 : g0 ≠ gr_ := by omega
      have ne1 : g0 + 1 ≠ gr_ := by omega
      have ne2 : g0 + 1 + 1 ≠ gr_ := by omega
      have ne3 : g0 + 1 + 1 + 1 ≠ gr_ := by omega
      clear hg0 hgr
      have a3 : W.cell? ⟨g0 + 1, 3, none⟩ = some (.int .i64 ax) := B1.cell 3
      have a4 : W.cell? ⟨g0 + 1, 4, none⟩ = some (.int .i64 ay) := B1.cell 4
      have z1 := B1.lt
      go_upto_region 4 with (go_at_call 138; (with_reducible refine (HB.out _).mono ?_); rintro e w1 ⟨rfl, hb1⟩)
      have hl1 : Later w w1 := hl.trans hb1
      have B4b := B4.later hb1
      have r0 : w1.cell? ⟨gr_, 0, none⟩ = some (.int .i64 0) := B4b.cell 0
      have r1 : w1.cell? ⟨gr_, 1, none⟩ = some (.int .i64 0) := B4b.cell 1
      have f0 := B4b.frozen 0
      have f1 := B4b.frozen 1
      have z4 := B4b.lt
      go_wp2
      refine bodyPost_ret (v := .tuple #[.agg #[.int .i64 0, .int .i64 0], .bool false]) (by simp [results, Tryz.results89, go_sem, r0, r1]) rfl ⟨by rw [HR.out]; rfl, ?_⟩
      exact (hl1.put hg4 _).put hg4 _
    · have h2' : outsideB ax ay = false := by simpa using h2
      have ha := not_out h2'
      have HB := Lib.hid (fun W => fill_beyond ax ay W)
      rw [h2'] at HB
      have HA := Lib.hid (fun W => turn_Apply f q ax ay W ha)
      have hna := apply_near (f := f) (q := q) ha
      rw [if_neg (by simp), if_neg h2] at HD
      clear h2 h2' ha
      unfold ptV at HA
      generalize applyP f q ⟨ax, ay⟩ = a at *
      obtain ⟨tx, ty⟩ := a
      unfold NearP at hna
      simp only [] at HD HA hna
      have HB2 := Lib.hid (fun W => fill_beyond (tx + px) (ty + py) W)
      go_enter Tryz.func89, Tryz.ntmps89
      go_upto_region 3 with fail
      refine name_world (fun W hW => ?_)
      have hl : Later w W := by rw [hW]; exact (by repeat' (with_reducible first | exact Later.refl _ | assumption | refine Later.drew ?_ | refine Later.drewN ?_ _ | refine Later.alloc ?_ _ | refine Later.put ?_ (by omega) _ | refine Later.trans ?_ (by assumption)))
      have B0 : Blk W w.heap.size 23 #[.int .i64 rx, .int .i64 ry] := by rw [hW]; exact (by repeat' (with_reducible first | assumption | (refine Blk.newAt ?_; simp; done) | refine Blk.alloc ?_ _ | refine Blk.drew ?_ | refine Blk.drewN ?_ _ | refine Blk.later ?_ (by assumption)))
      have B1 : Blk W (w.heap.size + 1) 31 #[.slice pa ps.length pc, .int .i64 gr, .bool true, .int .i64 ax, .int .i64 ay] := by rw [hW]; exact (by repeat' (with_reducible first | assumption | (refine Blk.newAt ?_; simp; done) | refine Blk.alloc ?_ _ | refine Blk.drew ?_ | refine Blk.drewN ?_ _ | refine Blk.later ?_ (by assumption)))
      have B2 : Blk W (w.heap.size + 1 + 1) 42 #[.bool f, .int .i64 q] := by rw [hW]; exact (by repeat' (with_reducible first | assumption | (refine Blk.newAt ?_; simp; done) | refine Blk.alloc ?_ _ | refine Blk.drew ?_ | refine Blk.drewN ?_ _ | refine Blk.later ?_ (by assumption)))
      have B3 : Blk W (w.heap.size + 1 + 1 + 1) 29 #[.int .i64 px, .int .i64 py] := by rw [hW]; exact (by repeat' (with_reducible first | assumption | (refine Blk.newAt ?_; simp; done) | refine Blk.alloc ?_ _ | refine Blk.drew ?_ | refine Blk.drewN ?_ _ | refine Blk.later ?_ (by assumption)))
      have B4 : Blk W (w.heap.size + 1 + 1 + 1 + 1) 29 #[.int .i64 0, .int .i64 0] := by rw [hW]; exact (by repeat' (with_reducible first | assumption | (refine Blk.newAt ?_; simp; done) | refine Blk.alloc ?_ _ | refine Blk.drew ?_ | refine Blk.drewN ?_ _ | refine Blk.later ?_ (by assumption)))
      clear hW
      generalize hg0 : w.heap.size = g0 at B0 B1 B2 B3 B4 ⊢
      generalize hgr : g0 + 1 + 1 + 1 + 1 = gr_ at *
      have hg4 : w.heap.size ≤ gr_ := by omega
      have ne0 : g0 ≠ gr_ := by omega
      have ne1 : g0 + 1 ≠ gr_ := by omega
      have ne2 : g0 + 1 + 1 ≠ gr_ := by omega
      have ne3 : g0 + 1 + 1 + 1 ≠ gr_ := by omega
      clear hg0 hgr
      have a3 : W.cell? ⟨g0 + 1, 3, none⟩ = some (.int .i64 ax) := B1.cell 3
      have a4 : W.cell? ⟨g0 + 1, 4, none⟩ = some (.int .i64 ay) := B1.cell 4
      have z1 := B1.lt
      go_upto_region 5 with (go_at_call 138; (with_reducible refine (HB.out _).mono ?_); rintro e w1 ⟨rfl, hb1⟩)
      have hl1 : Later w w1 := hl.trans hb1
      have C0 := B0.later hb1
      have C1 := B1.later hb1
      have C2 := B2.later hb1
      have C3 := B3.later hb1
      have C4 := B4.later hb1
      clear a3 a4 z1 B0 B1 B2 B3 B4 hb1 hl
      have a3 : w1.cell? ⟨g0 + 1, 3, none⟩ = some (.int .i64 ax) := C1.cell 3
      have a4 : w1.cell? ⟨g0 + 1, 4, none⟩ = some (.int .i64 ay) := C1.cell 4
      have z1 := C1.lt
      have t0 : w1.cell? ⟨g0 + 1 + 1, 0, none⟩ = some (.bool f) := C2.cell 0
      have t1 : w1.cell? ⟨g0 + 1 + 1, 1, none⟩ = some (.int .i64 q) := C2.cell 1
      have z2 := C2.lt
      go_upto_region 6 with (go_at_call 12; (with_reducible refine (HA.out _).mono ?_); rintro e w2 ⟨rfl, hb2⟩)
      refine name_world (fun W3 hW3 => ?_)
      have hb23 : Later w2 W3 := by rw [hW3]; exact (by repeat' (with_reducible first | exact Later.refl _ | assumption | refine Later.drew ?_ | refine Later.drewN ?_ _ | refine Later.alloc ?_ _ | refine Later.put ?_ (by omega) _ | refine Later.trans ?_ (by assumption)))
      have A5 : Blk W3 w2.heap.size 29 #[.int .i64 tx, .int .i64 ty] := by rw [hW3]; exact (by repeat' (with_reducible first | assumption | (refine Blk.newAt ?_; simp; done) | refine Blk.alloc ?_ _ | refine Blk.drew ?_ | refine Blk.drewN ?_ _ | refine Blk.later ?_ (by assumption)))
      have hb13 : Later w1 W3 := hb2.trans hb23
      clear hW3 a3 a4 z1 t0 t1 z2
      have D0 := C0.later hb13
      have D3 := C3.later hb13
      have D4 := C4.later hb13
      have hl3 : Later w W3 := hl1.trans hb13
      have hg5 : gr_ ≠ w2.heap.size := by have := (C4.later hb2).lt; omega
      generalize w2.heap.size = g5 at *
      clear C0 C1 C2 C3 C4
      have p0 : W3.cell? ⟨g0 + 1 + 1 + 1, 0, none⟩ = some (.int .i64 px) := D3.cell 0
      have p1 : W3.cell? ⟨g0 + 1 + 1 + 1, 1, none⟩ = some (.int .i64 py) := D3.cell 1
      have q0 : W3.cell? ⟨g5, 0, none⟩ = some (.int .i64 tx) := A5.cell 0
      have q1 : W3.cell? ⟨g5, 1, none⟩ = some (.int .i64 ty) := A5.cell 1
      have z3 := D3.lt
      have z5 := A5.lt
      go_upto_region 7 with fail
      refine name_world (fun W4 hW4 => ?_)
      have hb34 : Later W3 W4 := by rw [hW4]; exact (by repeat' (with_reducible first | exact Later.refl _ | assumption | refine Later.drew ?_ | refine Later.drewN ?_ _ | refine Later.alloc ?_ _ | refine Later.put ?_ (by omega) _ | refine Later.trans ?_ (by assumption)))
      have A6 : Blk W4 W3.heap.size 29 #[.int .i64 (tx + px), .int .i64 (ty + py)] := by rw [hW4]; exact (by repeat' (with_reducible first | assumption | (refine Blk.newAt ?_; simp; done) | refine Blk.alloc ?_ _ | refine Blk.drew ?_ | refine Blk.drewN ?_ _ | refine Blk.later ?_ (by assumption)))
      clear hW4 p0 p1 q0 q1 z3 z5
      have E0 := D0.later hb34
      have E4 := D4.later hb34
      have E5 := A5.later hb34
      have hl4 : Later w W4 := hl3.trans hb34
      generalize W3.heap.size = g6 at *
      have q0 : W4.cell? ⟨g6, 0, none⟩ = some (.int .i64 (tx + px)) := A6.cell 0
      have q1 : W4.cell? ⟨g6, 1, none⟩ = some (.int .i64 (ty + py)) := A6.cell 1
      have z6 := A6.lt
      by_cases h3 : outsideB (tx + px) (ty + py) = true
      · have HR := Lib.hid (show R = none by rw [HD.out, if_pos h3])
        rw [h3] at HB2
        go_upto_region 8 with (go_at_call 138; (with_reducible refine (HB2.out _).mono ?_); rintro e w5 ⟨rfl, hb5⟩)
        have hl5 : Later w w5 := hl4.trans hb5
        have F4 := E4.later hb5
        have r0 : w5.cell? ⟨gr_, 0, none⟩ = some (.int .i64 0) := F4.cell 0
        have r1 : w5.cell? ⟨gr_, 1, none⟩ = some (.int .i64 0) := F4.cell 1
        have f0 := F4.frozen 0
        have f1 := F4.frozen 1
        have z4 := F4.lt
        go_wp2
        refine bodyPost_ret (v := .tuple #[.agg #[.int .i64 0, .int .i64 0], .bool false]) (by simp [results, Tryz.results89, go_sem, r0, r1]) rfl ⟨by rw [HR.out]; rfl, ?_⟩
        exact (hl5.put hg4 _).put hg4 _
      · have h3' : outsideB (tx + px) (ty + py) = false := by simpa using h3
        have HN := Lib.hid (fun W => stripe_Next rx ry (tx + px) (ty + py) W)
        obtain ⟨nb1, nb2⟩ := nextP_bd rx ry ⟨tx + px, ty + py⟩
        rw [if_neg h3] at HD
        rw [h3'] at HB2
        unfold ptV at HN
        generalize nextP rx ry ⟨tx + px, ty + py⟩ ⟨0, 0⟩ = n at *
        obtain ⟨nx, ny⟩ := n
        simp only [] at HN HD nb1 nb2
        go_upto_region 9 with (go_at_call 138; (with_reducible refine (HB2.out _).mono ?_); rintro e w5 ⟨rfl, hb5⟩)
        have hl5 : Later w w5 := hl4.trans hb5
        have F0 := E0.later hb5
        have F4 := E4.later hb5
        have F5 := E5.later hb5
        have F6 := A6.later hb5
        clear q0 q1 z6 h3 h3'
        have q0 : w5.cell? ⟨g6, 0, none⟩ = some (.int .i64 (tx + px)) := F6.cell 0
        have q1 : w5.cell? ⟨g6, 1, none⟩ = some (.int .i64 (ty + py)) := F6.cell 1
        have z6 := F6.lt
        have u0 : w5.cell? ⟨g0, 0, none⟩ = some (.int .i64 rx) := F0.cell 0
        have u1 : w5.cell? ⟨g0, 1, none⟩ = some (.int .i64 ry) := F0.cell 1
        have z0 := F0.lt
        go_upto_region 10 with (go_at_call 139; (with_reducible refine (HN.out _).mono ?_); rintro e w6 ⟨rfl, hb6⟩)
        refine name_world (fun W7 hW7 => ?_)
        have hb67 : Later w6 W7 := by rw [hW7]; exact (by repeat' (with_reducible first | exact Later.refl _ | assumption | refine Later.drew ?_ | refine Later.drewN ?_ _ | refine Later.alloc ?_ _ | refine Later.put ?_ (by omega) _ | refine Later.trans ?_ (by assumption)))
        have A7 : Blk W7 w6.heap.size 29 #[.int .i64 nx, .int .i64 ny] := by rw [hW7]; exact (by repeat' (with_reducible first | assumption | (refine Blk.newAt ?_; simp; done) | refine Blk.alloc ?_ _ | refine Blk.drew ?_ | refine Blk.drewN ?_ _ | refine Blk.later ?_ (by assumption)))
        have hb57 : Later w5 W7 := hb6.trans hb67
        have hl7 : Later w W7 := hl5.trans hb57
        have hg7 : gr_ ≠ w6.heap.size := by have := (F4.later hb6).lt; omega
        clear hW7 q0 q1 z6 u0 u1 z0
        have G4 := F4.later hb57
        have G5 := F5.later hb57
        generalize w6.heap.size = g7 at *
        have v0 : W7.cell? ⟨g7, 0, none⟩ = some (.int .i64 nx) := A7.cell 0
        have v1 : W7.cell? ⟨g7, 1, none⟩ = some (.int .i64 ny) := A7.cell 1
        have z7 := A7.lt
        have q0 : W7.cell? ⟨g5, 0, none⟩ = some (.int .i64 tx) := G5.cell 0
        have q1 : W7.cell? ⟨g5, 1, none⟩ = some (.int .i64 ty) := G5.cell 1
        have z5 := G5.lt
        have r0 : W7.cell? ⟨gr_, 0, none⟩ = some (.int .i64 0) := G4.cell 0
        have r1 : W7.cell? ⟨gr_, 1, none⟩ = some (.int .i64 0) := G4.cell 1
        have f0 := G4.frozen 0
        have f1 := G4.frozen 1
        have z4 := G4.lt
        go_wp2
        refine bodyPost_ret (v := .tuple #[.agg #[.int .i64 (nx - tx), .int .i64 (ny - ty)], .bool true]) (by simp [results, Tryz.results89, go_sem, r0, r1]) rfl ⟨by rw [HD.out]; rfl, ?_⟩
        exact (hl7.put hg4 _).put hg4 _
end Go.Proofs.YtdhakoecjmaebaaGreat
