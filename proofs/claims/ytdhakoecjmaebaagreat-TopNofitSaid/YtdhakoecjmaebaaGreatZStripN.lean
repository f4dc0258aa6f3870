/-
  The walks of stripe.next, stripe.Next (from the origin), fill.beyond, nofit.interior, nofit.blocked.
-/
import Derived.Test.YtdhakoecjmaebaaGreatZPl
import Derived.Test.YtdhakoecjmaebaaGreatZNofP
import Derived.Test.YtdhakoecjmaebaaGreatZDTab
namespace Go.Proofs.YtdhakoecjmaebaaGreat
open Go.RowKit
set_option linter.unusedSimpArgs false
set_option linter.unusedVariables false

set_option maxHeartbeats 400000 in
theorem stripe_next (p a : Int) (w : World) (hp : 0 ≤ p ∧ p ≤ 1048576) (ha : -1048576 ≤ a ∧ a ≤ 1048576) : Calls Tryz.prog 187 #[.int .i64 p, .int .i64 a, .int .i64 0] w (Pure (.int .i64 (nextI p a 0)) w) := by
  have hm := mod_bd (n := -a) hp.1 hp.2
  have HM := Lib.hid (fun W => stripe_modulo (-a) p W (by omega) hp)
  have HD := Lib.hid (show nextI p a 0 = a + modI (-a) p by unfold nextI; rw [Int.zero_sub])
  have z1 : IntKind.i64.wrap (-a) = -a := IntWalk.i64_in _ (by omega)
  have z2 : IntKind.i64.wrap (a + modI (-a) p) = a + modI (-a) p := IntWalk.i64_in _ (by omega)
  generalize modI (-a) p = m at *
  go_enter Tryz.func187, Tryz.ntmps187
  go_wp2_with (go_at_call 61; (with_reducible refine (HM.out _).mono ?_); rintro e w1 ⟨rfl, rfl⟩)
  go_ret
  exact ⟨ret_int HD.out.symm, rfl⟩

set_option maxHeartbeats 400000 in
theorem fill_beyond (x y : Int) (w : World) : Calls Tryz.prog 138 #[.agg #[.int .i64 x, .int .i64 y]] w (Ret (.bool (outsideB x y)) w) := by
  go_enter Tryz.func138, Tryz.ntmps138
  go_wp2
  all_goals
    go_ret
    exact ⟨ret_bool (by simp [outsideB] <;> omega), (Later.refl _).alloc _⟩

set_option maxHeartbeats 2000000 in
set_option maxRecDepth 100000 in
theorem stripe_Next (a b x y : Int) (w : World) : Calls Tryz.prog 139 #[.agg #[.int .i64 a, .int .i64 b], .agg #[.int .i64 x, .int .i64 y], .agg #[.int .i64 0, .int .i64 0]] w (Ret (ptV (nextP a b ⟨x, y⟩ ⟨0, 0⟩)) w) := by
  have hpa := period_bd a
  have hpb := period_bd b
  have hlx := lim_bd x
  have hly := lim_bd y
  have Hm1 := Lib.hid (fun W => stripe_next (periodI a) (limI x) W hpa hlx)
  have Hm2 := Lib.hid (fun W => stripe_next (periodI b) (limI y) W hpb hly)
  have HN := Lib.hid (fun W => stripe_Norm a b W)
  have l0 : limI 0 = 0 := rfl
  have HL0 := Lib.hid (fun W => (stripe_limited 0 W : Calls Tryz.prog 62 #[.int .i64 0] W (Pure (.int .i64 (limI 0)) W)))
  rw [l0] at HL0
  unfold ptV nextP
  simp only [l0]
  generalize nextI (periodI a) (limI x) 0 = m1 at *
  generalize nextI (periodI b) (limI y) 0 = m2 at *
  generalize periodI a = pa at *
  generalize periodI b = pb at *
  go_enter Tryz.func139, Tryz.ntmps139
  go_wp2_with (first | (go_at_call 60; refine (HN.out _).mono ?_; rintro e w1 ⟨rfl, hb1⟩; have k0 : w1.cell? ⟨w.heap.size, 0, none⟩ = some (.int .i64 a) := hb1.cell (by simp [go_sem]); have k1 : w1.cell? ⟨w.heap.size, 1, none⟩ = some (.int .i64 b) := hb1.cell (by simp [go_sem]); have B0 : Blk w1 w.heap.size 23 #[.int .i64 a, .int .i64 b] := Blk.later (by repeat' (with_reducible first | assumption | (refine Blk.newAt ?_; simp; done) | refine Blk.alloc ?_ _ | refine Blk.drew ?_ | refine Blk.drewN ?_ _ | refine Blk.later ?_ (by assumption))) hb1; have B1 : Blk w1 (w.heap.size + 1) 29 #[.int .i64 x, .int .i64 y] := Blk.later (by repeat' (with_reducible first | assumption | (refine Blk.newAt ?_; simp; done) | refine Blk.alloc ?_ _ | refine Blk.drew ?_ | refine Blk.drewN ?_ _ | refine Blk.later ?_ (by assumption))) hb1; have B2 : Blk w1 (w.heap.size + 1 + 1) 29 #[.int .i64 0, .int .i64 0] := Blk.later (by repeat' (with_reducible first | assumption | (refine Blk.newAt ?_; simp; done) | refine Blk.alloc ?_ _ | refine Blk.drew ?_ | refine Blk.drewN ?_ _ | refine Blk.later ?_ (by assumption))) hb1; have B3 : Blk w1 (w.heap.size + 1 + 1 + 1) 29 #[.int .i64 0, .int .i64 0] := Blk.later (by repeat' (with_reducible first | assumption | (refine Blk.newAt ?_; simp; done) | refine Blk.alloc ?_ _ | refine Blk.drew ?_ | refine Blk.drewN ?_ _ | refine Blk.later ?_ (by assumption))) hb1; have g0 := B0.frozen 0; have g1 := B0.frozen 1))
  refine name_world (fun W hW => ?_)
  have hl : Later w W := by rw [hW]; exact ((((((Later.refl w).alloc _).alloc _).alloc _).alloc _).trans hb1 |>.put (Nat.le_refl _) _).put (Nat.le_refl _) _
  have C0 : Blk W w.heap.size 23 #[.int .i64 pa, .int .i64 pb] := by rw [hW]; exact B0.two
  have C1 : Blk W (w.heap.size + 1) 29 #[.int .i64 x, .int .i64 y] := by rw [hW]; exact (B1.far (by omega) _).far (by omega) _
  have C2 : Blk W (w.heap.size + 1 + 1) 29 #[.int .i64 0, .int .i64 0] := by rw [hW]; exact (B2.far (by omega) _).far (by omega) _
  have C3 : Blk W (w.heap.size + 1 + 1 + 1) 29 #[.int .i64 0, .int .i64 0] := by rw [hW]; exact (B3.far (by omega) _).far (by omega) _
  have c0 : W.cell? ⟨w.heap.size, 0, none⟩ = some (.int .i64 pa) := C0.cell 0
  have c1 : W.cell? ⟨w.heap.size, 1, none⟩ = some (.int .i64 pb) := C0.cell 1
  have d0 : W.cell? ⟨w.heap.size + 1, 0, none⟩ = some (.int .i64 x) := C1.cell 0
  have d1 : W.cell? ⟨w.heap.size + 1, 1, none⟩ = some (.int .i64 y) := C1.cell 1
  have e0 : W.cell? ⟨w.heap.size + 1 + 1, 0, none⟩ = some (.int .i64 0) := C2.cell 0
  have e1 : W.cell? ⟨w.heap.size + 1 + 1, 1, none⟩ = some (.int .i64 0) := C2.cell 1
  have r0 : W.cell? ⟨w.heap.size + 1 + 1 + 1, 0, none⟩ = some (.int .i64 0) := C3.cell 0
  have r1 : W.cell? ⟨w.heap.size + 1 + 1 + 1, 1, none⟩ = some (.int .i64 0) := C3.cell 1
  have f0 := C3.frozen 0
  have f1 := C3.frozen 1
  clear hW k0 k1 B0 B1 B2 B3 g0 g1 hb1
  refine wp_region_still_tail 18 (by kernel_rfl) (by kernel_rfl) ?_
  simp only [List.take_succ_cons, List.take_zero, List.drop_succ_cons, List.drop_zero]
  repeat (first | still_step | (refine wpStill_step (fun K hK => ?_); go_simp; (with_reducible refine ⟨_, still_of (HL0.out _), hK _ ?_⟩); clear hK K) | (refine wpStill_step (fun K hK => ?_); go_simp; (with_reducible refine ⟨_, still_of (stripe_limited _ _), hK _ ?_⟩); clear hK K) | (refine wpStill_step (fun K hK => ?_); go_simp; (with_reducible refine ⟨_, still_of (Hm1.out _), hK _ ?_⟩); clear hK K) | (refine wpStill_step (fun K hK => ?_); go_simp; (with_reducible refine ⟨_, still_of (Hm2.out _), hK _ ?_⟩); clear hK K))
  (try refine wpStill_nil ?_)
  change wpList _ _ _ _ _ W.drew
  go_wp2
  refine bodyPost_ret (v := .agg #[.int .i64 m1, .int .i64 m2]) (by simp [results, Tryz.results139, go_sem, r0, r1]) rfl ⟨rfl, ?_⟩
  exact (hl.put (by omega) _ |>.put (by omega) _).drew

/- Is a point inside a region? -/
theorem leftI_bd {p q d : Pt} (h1 : NearP 4194304 p) (h2 : NearP 4194304 q) (h3 : NearP 4194304 d) :
    -70368744177664 ≤ (q.x - p.x) * (d.y - p.y) ∧ (q.x - p.x) * (d.y - p.y) ≤ 70368744177664 ∧ -70368744177664 ≤ (q.y - p.y) * (d.x - p.x) ∧ (q.y - p.y) * (d.x - p.x) ≤ 70368744177664 := by
  unfold NearP at *
  have a := mul_bd (a := q.x - p.x) (b := d.y - p.y) 8388608 (by omega) (by omega)
  have b := mul_bd (a := q.y - p.y) (b := d.x - p.x) 8388608 (by omega) (by omega)
  omega
theorem inter_next (r : List Pt) (d : Pt) {k : Nat} (hk : k < r.length) : interGo r d (r.length - k) k = if leftI (gp r k) (gp r ((k + 1) % r.length)) d ≤ 0 then false else interGo r d (r.length - (k + 1)) (k + 1) := by
  rw [show r.length - k = (r.length - (k + 1)) + 1 by omega, interGo]
set_option maxHeartbeats 2000000 in
theorem nofit_interior (A : Option Addr) (c : Nat) (r : List Pt) (d : Pt) (w : World) (hn : r.length ≤ 65536) (hp : Pts w A r) (hr : ∀ p ∈ r, NearP 4194304 p) (hd : NearP 4194304 d) :
    Calls Tryz.prog 74 #[.slice A r.length c, .agg #[.int .i64 d.x, .int .i64 d.y]] w (Ret (.bool (interB r d)) w) := by
  have HR := Lib.hid (show interB r d = (interGo r d (r.length - 0) 0 && decide (0 < r.length)) from rfl)
  obtain ⟨dx, dy⟩ := d
  have Hrn := Lib.hid hr
  clear hr
  have hd' := hd
  unfold NearP at hd'
  simp only [] at hd'
  generalize interB r ⟨dx, dy⟩ = v at *
  go_enter Tryz.func74, Tryz.ntmps74
  go_upto_region 2 with fail
  refine name_world (fun W hW => ?_)
  have hl : Later w W := by rw [hW]; exact (by repeat' (with_reducible first | exact Later.refl _ | assumption | refine Later.drew ?_ | refine Later.drewN ?_ _ | refine Later.alloc ?_ _ | refine Later.put ?_ (by omega) _ | refine Later.trans ?_ (by assumption)))
  have D0 : Blk W w.heap.size 29 #[.int .i64 dx, .int .i64 dy] := by rw [hW]; exact (by repeat' (with_reducible first | assumption | (refine Blk.newAt ?_; simp; done) | refine Blk.alloc ?_ _ | refine Blk.drew ?_ | refine Blk.drewN ?_ _ | refine Blk.later ?_ (by assumption)))
  clear hW
  generalize w.heap.size = g at *
  go_loopw [10] (fun iv wr => ∃ k : Nat, k ≤ r.length ∧ iv = .int .i64 k ∧ Hid (interGo r ⟨dx, dy⟩ (r.length - 0) 0 = interGo r ⟨dx, dy⟩ (r.length - k) k) ∧ Later w wr ∧ Blk wr g 29 #[.int .i64 dx, .int .i64 dy]) (fun iv _ => r.length - (intOf iv).toNat)
  case atStart => exact ⟨0, by omega, rfl, Lib.hid rfl, hl, D0⟩
  case round =>
    clear hl D0
    obtain ⟨k, hk, rfl, He, hb, D0⟩ := hrel
    by_cases hlt : k < r.length
    · have hm : (k + 1) % r.length < r.length := Nat.mod_lt _ (by omega)
      obtain ⟨b, o, rfl, e1, e2⟩ := (hp.later hb).gp hlt
      obtain ⟨b', o', eA, e3, e4⟩ := (hp.later hb).gp hm
      cases eA
      have zb := World.block_lt_of_cell? _ _ e1
      have n1 : NearP 4194304 (gp r k) := Hrn.out _ (by rw [gp_eq hlt]; exact List.getElem_mem _)
      have n2 : NearP 4194304 (gp r ((k + 1) % r.length)) := Hrn.out _ (by rw [gp_eq hm]; exact List.getElem_mem _)
      have hbd := leftI_bd n1 n2 hd
      have Hx := Lib.hid (inter_next r ⟨dx, dy⟩ hlt)
      unfold leftI at Hx
      unfold NearP at n1 n2
      have zm : ((k : Int) + 1).tmod (r.length : Int) = (((k + 1) % r.length : Nat) : Int) := by
        rw [Int.tmod_eq_emod_of_nonneg (by omega), Int.natCast_emod]
        rfl
      have i0 : (0 : Int) ≤ (((k + 1) % r.length : Nat) : Int) := by omega
      have i1 : (((k + 1) % r.length : Nat) : Int) < (r.length : Int) := by omega
      have k0 : wr.cell? ⟨g, 0, none⟩ = some (.int .i64 dx) := D0.cell 0
      have k1 : wr.cell? ⟨g, 1, none⟩ = some (.int .i64 dy) := D0.cell 1
      have zg := D0.lt
      generalize (k + 1) % r.length = m at *
      generalize gp r k = p at *
      generalize gp r m = q at *
      obtain ⟨px, py⟩ := p
      obtain ⟨qx, qy⟩ := q
      simp only [] at e1 e2 e3 e4 n1 n2 hbd Hx
      by_cases hs : (qx - px) * (dy - py) - (qy - py) * (dx - px) ≤ 0
      · have ds : decide ((qx - px) * (dy - py) - (qy - py) * (dx - px) ≤ 0) = true := by simpa using hs
        have Hy := Lib.hid (show v = false by rw [HR.out, He.out, Hx.out, if_pos hs, Bool.false_and])
        clear HR He Hx hs
        go_wp2
        go_ret
        exact ⟨ret_bool Hy.out.symm, (by repeat' (with_reducible first | exact Later.refl _ | assumption | refine Later.drew ?_ | refine Later.drewN ?_ _ | refine Later.alloc ?_ _ | refine Later.put ?_ (by omega) _ | refine Later.trans ?_ (by assumption)))⟩
      · have ds : decide ((qx - px) * (dy - py) - (qy - py) * (dx - px) ≤ 0) = false := by simpa using hs
        have Hy := Lib.hid (show interGo r ⟨dx, dy⟩ (r.length - 0) 0 = interGo r ⟨dx, dy⟩ (r.length - (k + 1)) (k + 1) by rw [He.out, Hx.out, if_neg hs])
        clear He Hx hs
        go_wp2
        go_roundw
        case rel => exact ⟨k + 1, by omega, by go_num, Hy, hb.trans (by repeat' (with_reducible first | exact Later.refl _ | assumption | refine Later.drew ?_ | refine Later.drewN ?_ _ | refine Later.alloc ?_ _ | refine Later.put ?_ (by omega) _ | refine Later.trans ?_ (by assumption))), D0.later (by repeat' (with_reducible first | exact Later.refl _ | assumption | refine Later.drew ?_ | refine Later.drewN ?_ _ | refine Later.alloc ?_ _ | refine Later.put ?_ (by omega) _ | refine Later.trans ?_ (by assumption)))⟩
        case measure => simp [intOf]; omega
    · have h1 : interGo r ⟨dx, dy⟩ (r.length - k) k = true := by rw [show r.length - k = 0 by omega]; rfl
      have HR2 := Lib.hid (show v = decide (0 < r.length) by rw [HR.out, He.out, h1, Bool.true_and])
      clear HR He
      go_wp2
      go_ret
      exact ⟨ret_bool (by rw [HR2.out]), hb⟩

/- Is a point inside one of the regions? -/
theorem any_next {α : Type} (f : α → Bool) {l : List α} {k : Nat} (h : k < l.length) : (l.drop k).any f = (f l[k] || (l.drop (k + 1)).any f) := by rw [List.drop_eq_getElem_cons h, List.any_cons]
theorem far_cases {x y : Int} (h : farP ⟨x, y⟩ = true) : (x < -2097152) ∨ (¬ x < -2097152 ∧ x > 2097152) ∨ (¬ x < -2097152 ∧ ¬ x > 2097152 ∧ y < -2097152) ∨ (¬ x < -2097152 ∧ ¬ x > 2097152 ∧ ¬ y < -2097152 ∧ y > 2097152) := by
  unfold farP at h
  simp only [Bool.or_eq_true, decide_eq_true_eq] at h
  omega
theorem far_not {x y : Int} (h : ¬ farP ⟨x, y⟩ = true) : ¬ x < -2097152 ∧ ¬ x > 2097152 ∧ ¬ y < -2097152 ∧ ¬ y > 2097152 := by
  unfold farP at h
  simp only [Bool.or_eq_true, decide_eq_true_eq] at h
  omega
set_option maxHeartbeats 2000000 in
theorem nofit_blocked (A : Option Addr) (c : Nat) (rs : List (List Pt)) (d : Pt) (w : World) (hn : rs.length ≤ 65536) (hl : ∀ r ∈ rs, r.length ≤ 65536) (hp : Polys w A rs) (hr : ∀ r ∈ rs, ∀ p ∈ r, NearP 4194304 p) :
    Calls Tryz.prog 34 #[.slice A rs.length c, .agg #[.int .i64 d.x, .int .i64 d.y]] w (Ret (.bool (blockB rs d)) w) := by
  have HR := Lib.hid (show blockB rs d = if farP d = true then false else rs.any fun r => interB r d from rfl)
  obtain ⟨dx, dy⟩ := d
  generalize blockB rs ⟨dx, dy⟩ = v at *
  by_cases hf : farP ⟨dx, dy⟩ = true
  · have Hv := Lib.hid (show v = false by rw [HR.out, if_pos hf])
    clear HR
    rcases far_cases hf with h1 | ⟨h1, h2⟩ | ⟨h1, h2, h3⟩ | ⟨h1, h2, h3, h4⟩
    all_goals
      clear hf
      go_enter Tryz.func34, Tryz.ntmps34
      go_wp2
      go_ret
      exact ⟨ret_bool Hv.out.symm, (by repeat' (with_reducible first | exact Later.refl _ | assumption | refine Later.drew ?_ | refine Later.drewN ?_ _ | refine Later.alloc ?_ _ | refine Later.put ?_ (by omega) _ | refine Later.trans ?_ (by assumption)))⟩
  · obtain ⟨h1, h2, h3, h4⟩ := far_not hf
    have hnd : NearP 4194304 ⟨dx, dy⟩ := by unfold NearP; simp only []; omega
    have Hv := Lib.hid (show v = (rs.drop 0).any fun r => interB r ⟨dx, dy⟩ by rw [HR.out, if_neg hf]; rfl)
    have HI := Lib.hid (fun (k : Nat) (hk : k < rs.length) (A : Option Addr) (c : Nat) (W : World) (hW : Pts W A rs[k]) => nofit_interior A c rs[k] ⟨dx, dy⟩ W (hl _ (List.getElem_mem hk)) hW (hr _ (List.getElem_mem hk)) hnd)
    clear HR hf hl hr
    go_enter Tryz.func34, Tryz.ntmps34
    go_upto_region 4 with fail
    clear h1 h2 h3 h4
    refine name_world (fun W hW => ?_)
    have hl : Later w W := by rw [hW]; exact (by repeat' (with_reducible first | exact Later.refl _ | assumption | refine Later.drew ?_ | refine Later.drewN ?_ _ | refine Later.alloc ?_ _ | refine Later.put ?_ (by omega) _ | refine Later.trans ?_ (by assumption)))
    have D0 : Blk W w.heap.size 29 #[.int .i64 dx, .int .i64 dy] := by rw [hW]; exact (by repeat' (with_reducible first | assumption | (refine Blk.newAt ?_; simp; done) | refine Blk.alloc ?_ _ | refine Blk.drew ?_ | refine Blk.drewN ?_ _ | refine Blk.later ?_ (by assumption)))
    clear hW
    generalize w.heap.size = g at *
    go_loopw [27] (fun iv wr => ∃ k : Nat, k ≤ rs.length ∧ iv = .int .i64 k ∧ Hid (v = (rs.drop k).any fun r => interB r ⟨dx, dy⟩) ∧ Later w wr ∧ Blk wr g 29 #[.int .i64 dx, .int .i64 dy]) (fun iv _ => rs.length - (intOf iv).toNat)
    case atStart => exact ⟨0, by omega, rfl, Hv, hl, D0⟩
    case round =>
      clear hl D0
      obtain ⟨k, hk, rfl, He, hb, D0⟩ := hrel
      by_cases hlt : k < rs.length
      · obtain ⟨b, o, A', c', rfl, e1, e2, e3⟩ := (hp.later hb).at_ hlt
        have zb := World.block_lt_of_cell? _ _ e1
        have Hx := Lib.hid (any_next (fun r => interB r ⟨dx, dy⟩) hlt)
        have HI2 := Lib.hid (fun W (hW : Later wr W) => HI.out k hlt A' c' W (e3.later hW))
        have k0 : wr.cell? ⟨g, 0, none⟩ = some (.int .i64 dx) := D0.cell 0
        have k1 : wr.cell? ⟨g, 1, none⟩ = some (.int .i64 dy) := D0.cell 1
        have zg := D0.lt
        clear e3
        generalize rs[k] = r at *
        obtain ⟨q, hq⟩ : ∃ q, interB r ⟨dx, dy⟩ = q := ⟨_, rfl⟩
        rw [hq] at HI2 Hx
        clear hq
        rcases q with _ | _
        · have Hy := Lib.hid (show v = (rs.drop (k + 1)).any fun r => interB r ⟨dx, dy⟩ by rw [He.out, Hx.out]; rfl)
          clear He Hx
          go_wp2_with (go_at_call 74; (with_reducible refine (HI2.out _ (by repeat' (with_reducible first | exact Later.refl _ | assumption | refine Later.drew ?_ | refine Later.drewN ?_ _ | refine Later.alloc ?_ _ | refine Later.put ?_ (by omega) _ | refine Later.trans ?_ (by assumption)))).mono ?_); rintro e w1 ⟨rfl, hb1⟩)
          go_roundw
          case rel => exact ⟨k + 1, by omega, by go_num, Hy, hb.trans (by repeat' (with_reducible first | exact Later.refl _ | assumption | refine Later.drew ?_ | refine Later.drewN ?_ _ | refine Later.alloc ?_ _ | refine Later.put ?_ (by omega) _ | refine Later.trans ?_ (by assumption))), D0.later (by repeat' (with_reducible first | exact Later.refl _ | assumption | refine Later.drew ?_ | refine Later.drewN ?_ _ | refine Later.alloc ?_ _ | refine Later.put ?_ (by omega) _ | refine Later.trans ?_ (by assumption)))⟩
          case measure => simp [intOf]; omega
        · have Hy := Lib.hid (show v = true by rw [He.out, Hx.out]; rfl)
          clear He Hx
          go_wp2_with (go_at_call 74; (with_reducible refine (HI2.out _ (by repeat' (with_reducible first | exact Later.refl _ | assumption | refine Later.drew ?_ | refine Later.drewN ?_ _ | refine Later.alloc ?_ _ | refine Later.put ?_ (by omega) _ | refine Later.trans ?_ (by assumption)))).mono ?_); rintro e w1 ⟨rfl, hb1⟩)
          go_ret
          exact ⟨ret_bool Hy.out.symm, hb.trans (by repeat' (with_reducible first | exact Later.refl _ | assumption | refine Later.drew ?_ | refine Later.drewN ?_ _ | refine Later.alloc ?_ _ | refine Later.put ?_ (by omega) _ | refine Later.trans ?_ (by assumption)))⟩
      · have Hy := Lib.hid (show v = false by rw [He.out, List.drop_eq_nil_of_le (by omega)]; rfl)
        go_wp2
        go_ret
        exact ⟨ret_bool Hy.out.symm, hb⟩
end Go.Proofs.YtdhakoecjmaebaaGreat
