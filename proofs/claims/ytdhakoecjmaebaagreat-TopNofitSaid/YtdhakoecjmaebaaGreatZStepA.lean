/-
  The walks of nofit.Blocks and nofit.Spots.
-/
import Derived.Test.YtdhakoecjmaebaaGreatZRegC
import Derived.Test.YtdhakoecjmaebaaGreatZMapK
import Derived.Test.YtdhakoecjmaebaaGreatZTopP
import Derived.Test.YtdhakoecjmaebaaGreatZDam
namespace Go.Proofs.YtdhakoecjmaebaaGreat
open Go.RowKit Go.Lib
set_option linter.unusedSimpArgs false
set_option linter.unusedVariables false

theorem near_big {p : Pt} (h : NearP 2097152 p) : NearP 4194304 p := by unfold NearP at *; omega
set_option maxHeartbeats 1000000 in
theorem nofit_Blocks (A B : Option Addr) (ca cb : Nat) (a b : List Pt) (d : Pt) (w : World) (ha : a.length ≤ ca) (hb : b.length ≤ cb) (pa : Pts w A a) (pb : Pts w B b) (ka : checkI a = 0) (kb : checkI b = 0) (na : a.length ≤ 40) (nb : b.length ≤ 40) :
    Calls Tryz.prog 16 #[.slice A a.length ca, .slice B b.length cb, .agg #[.int .i64 d.x, .int .i64 d.y]] w (Ret (.tuple #[.bool (blockB (regsR a b) d), .int .i64 0]) w) := by
  have HR := Lib.hid (fun W (hW : Later w W) => nofit_Regions A B ca cb a b W ha hb (pa.later hW) (pb.later hW) ka kb (by omega) (by omega))
  have hcn : (regsR a b).length ≤ 1681 := Nat.le_trans (regs_cnt a b) (show (a.length + 1) * (b.length + 1) ≤ 41 * 41 from Nat.mul_le_mul (by omega) (by omega))
  have HO := Lib.hid (fun r (hr : r ∈ regsR a b) => regs_ok hr)
  have HC := Lib.hid (fun (rs : List (List Pt)) (h : ∀ r, r ∈ rs ↔ r ∈ regsR a b) => block_congr h d)
  clear pa pb ka kb
  obtain ⟨dx, dy⟩ := d
  generalize regsR a b = R at *
  unfold RegPost at HR
  go_enter Tryz.func16, Tryz.ntmps16
  go_upto_region 4 with (go_at_call 33; (with_reducible refine (HR.out _ (by repeat' (with_reducible first | exact Later.refl _ | assumption | refine Later.drew ?_ | refine Later.drewN ?_ _ | refine Later.alloc ?_ _ | refine Later.put ?_ (by omega) _ | refine Later.trans ?_ (by assumption)))).mono ?_); rintro e w1 ⟨A1, c1, rs, rfl, hc, hp, hm, hl, hb1⟩)
  have HB := Lib.hid (fun W (hW : Later w1 W) => nofit_blocked A1 c1 rs ⟨dx, dy⟩ W (by omega) (fun r hr => by have := (HO.out r ((hm r).1 hr)).1; omega) (hp.later hW) (fun r hr p hpr => near_big ((HO.out r ((hm r).1 hr)).2 p hpr)))
  rw [HC.out rs hm] at HB
  have D0 : Blk w1 w.heap.size 29 #[.int .i64 dx, .int .i64 dy] := Blk.later (by repeat' (with_reducible first | assumption | (refine Blk.newAt ?_; simp; done) | refine Blk.alloc ?_ _ | refine Blk.drew ?_ | refine Blk.drewN ?_ _ | refine Blk.later ?_ (by assumption))) hb1
  have k0 : w1.cell? ⟨w.heap.size, 0, none⟩ = some (.int .i64 dx) := D0.cell 0
  have k1 : w1.cell? ⟨w.heap.size, 1, none⟩ = some (.int .i64 dy) := D0.cell 1
  have z0 := D0.lt
  clear hm hp
  go_wp2_with (go_at_call 34; (with_reducible refine (HB.out _ (by repeat' (with_reducible first | exact Later.refl _ | assumption | refine Later.drew ?_ | refine Later.drewN ?_ _ | refine Later.alloc ?_ _ | refine Later.put ?_ (by omega) _ | refine Later.trans ?_ (by assumption)))).mono ?_); rintro e w2 ⟨rfl, hb2⟩)
  go_ret2
  exact ⟨rfl, (by repeat' (with_reducible first | exact Later.refl _ | assumption | refine Later.drew ?_ | refine Later.drewN ?_ _ | refine Later.alloc ?_ _ | refine Later.put ?_ (by omega) _ | refine Later.trans ?_ (by assumption)))⟩

/- The map of vertices. -/
theorem SetM.add {w : World} {b : Nat} {l : List Pt} (h : SetM encP I64P w b l) {p : Pt} (hp : I64P p) :
    ∃ w', (Instr.mapUpdate 161 (.map (some b)) (encP p) (.bool true)).run Tryz.prog w = .ok () w' ∧ SetM encP I64P w' b (addP l p) ∧ w.grownBy w' (some b) ∧ w'.heap.size = w.heap.size := by
  unfold addP
  by_cases hm : p ∈ l
  · rw [if_pos hm]
    exact h.again spot_enc Tryz.underlying161 hp hm
  · rw [if_neg hm]
    exact h.put spot_enc Tryz.underlying161 hp hm
theorem addAll_app (l xs ys : List Pt) : addAll l (xs ++ ys) = addAll (addAll l xs) ys := by unfold addAll; rw [List.foldl_append]
theorem addAll_next {l r : List Pt} {j : Nat} (h : j < r.length) : addAll l (r.take (j + 1)) = addP (addAll l (r.take j)) r[j] := by
  rw [List.take_add_one, List.getElem?_eq_getElem h, addAll_app]
  rfl
theorem flat_next {rs : List (List Pt)} {k : Nat} (h : k < rs.length) : (rs.take (k + 1)).flatten = (rs.take k).flatten ++ rs[k] := by
  rw [List.take_add_one, List.getElem?_eq_getElem h, List.flatten_append]
  simp
theorem flat_bd {rs : List (List Pt)} {n : Nat} (h : ∀ r ∈ rs, r.length ≤ n) : rs.flatten.length ≤ rs.length * n := by
  induction rs with
  | nil => simp
  | cons r rs ih =>
    have h1 := h r (List.mem_cons_self ..)
    have h2 := ih fun x hx => h x (List.mem_cons_of_mem _ hx)
    rw [List.flatten_cons, List.length_append, List.length_cons, Nat.succ_mul]
    omega
theorem left_same {w w' : World} {b r : Nat} (h1 : w'.heap[b]? = w.heap[b]?) (h2 : w'.heap[r]? = w.heap[r]?) : w'.rangeLeft b r = w.rangeLeft b r := by
  unfold World.rangeLeft
  rw [h1, h2]
def SpotsPost (r : List Pt) (w : World) (e : Ending) (w' : World) : Prop := ∃ v, e = .returned (.tuple #[v, .int .i64 0]) ∧ OwnR w' w.heap.size 29 2 pt2 v r ∧ Later w w'
set_option maxHeartbeats 4000000 in
set_option maxRecDepth 100000 in
theorem nofit_Spots (A B : Option Addr) (ca cb : Nat) (a b : List Pt) (w : World) (ha : a.length ≤ ca) (hb : b.length ≤ cb) (pa : Pts w A a) (pb : Pts w B b) (ka : checkI a = 0) (kb : checkI b = 0) (na : a.length ≤ 8) (nb : b.length ≤ 8) :
    Calls Tryz.prog 137 #[.slice A a.length ca, .slice B b.length cb] w (SpotsPost (spotsR a b) w) := by
  have HR := Lib.hid (nofit_Regions A B ca cb a b w ha hb pa pb ka kb (by omega) (by omega))
  have hcn : (regsR a b).length ≤ 81 := Nat.le_trans (regs_cnt a b) (show (a.length + 1) * (b.length + 1) ≤ 9 * 9 from Nat.mul_le_mul (by omega) (by omega))
  have HO := Lib.hid (fun r (hr : r ∈ regsR a b) => regs_ok hr)
  have HSp := Lib.hid (fun (rs : List (List Pt)) (h : ∀ r, r ∈ rs ↔ r ∈ regsR a b) (m : List Pt) hn hm ha => (show m = spotsR a b from spots_of h (m := m) hn hm ha))
  clear pa pb ka kb
  generalize spotsR a b = R at *
  generalize regsR a b = G at *
  unfold RegPost at HR
  have hmm := @run_makeMap Tryz.prog
  go_enter Tryz.func137, Tryz.ntmps137
  go_upto_region 4 with (go_at_call 33; (with_reducible refine HR.out.mono ?_); rintro e w1 ⟨A1, c1, rs, rfl, hc, hp, hm, hl, hb1⟩)
  have Hm := Lib.hid hm
  have HB := Lib.hid (fun d W (hW : Later w1 W) => nofit_blocked A1 c1 rs d W (by omega) (fun r hr => by have := (HO.out r ((hm r).1 hr)).1; omega) (hp.later hW) (fun r hr p hpr => near_big ((HO.out r ((hm r).1 hr)).2 p hpr)))
  have Hrow := Lib.hid (fun r (hr : r ∈ rs) => HO.out r ((hm r).1 hr))
  clear hm
  go_upto_region 5 with fail
  refine name_world (fun W2 hW2 => ?_)
  have hs2 : SetM encP I64P W2 w1.heap.size [] := by rw [hW2]; exact SetM.made w1
  have hl2 : Later w1 W2 := by rw [hW2]; exact (by repeat' (with_reducible first | exact Later.refl _ | assumption | refine Later.drew ?_ | refine Later.drewN ?_ _ | refine Later.alloc ?_ _ | refine Later.put ?_ (by omega) _ | refine Later.trans ?_ (by assumption)))
  clear hW2 hmm
  have hmz : w1.heap.size ≤ w1.heap.size := Nat.le_refl _
  generalize hme : w1.heap.size = m at hs2 hmz ⊢
  have Hme := Lib.hid hme
  clear hme hmz
  go_upto_region 6 with fail
  go_loopw [27] (fun iv wr => ∃ k : Nat, k ≤ rs.length ∧ iv = .int .i64 k ∧ Hid (SetM encP I64P wr m (addAll [] (rs.take k).flatten)) ∧ Later w1 wr) (fun iv _ => rs.length - (intOf iv).toNat)
  case atStart => exact ⟨0, by omega, rfl, Lib.hid (by simpa [addAll] using hs2), hl2⟩
  case round =>
    clear hs2 hl2
    obtain ⟨k, hk, rfl, Hs, hb⟩ := hrel
    by_cases hlt : k < rs.length
    · obtain ⟨b1, o1, A4, c4, rfl, e1, e2, e3⟩ := hp.at_ hlt
      have e1 := hb.cell e1
      have zb := World.block_lt_of_cell? _ _ e1
      have Hfn := Lib.hid (flat_next hlt)
      obtain ⟨r1, r2⟩ := Hrow.out _ (List.getElem_mem hlt)
      have Hr2 := Lib.hid r2
      have He3 := Lib.hid e3
      clear r2 e2 e3
      generalize rs[k] = r at *
      go_upto_region 9 with fail
      have Hhb := Lib.hid hb
      clear e1 zb
      go_loopw [33] (fun jv wq => ∃ j : Nat, j ≤ r.length ∧ jv = .int .i64 j ∧ Hid (SetM encP I64P wq m (addAll (addAll [] (rs.take k).flatten) (r.take j))) ∧ Later w1 wq) (fun jv _ => r.length - (intOf jv).toNat)
      case atStart => exact ⟨0, by omega, rfl, Lib.hid (by simpa [addAll] using Hs.out), Hhb.out⟩
      case round =>
        obtain ⟨j, hj, rfl, Hs2, hbq⟩ := hrel
        by_cases hjl : j < r.length
        · obtain ⟨b2, o2, rfl, x1, x2⟩ := (He3.out.later hbq).at_ hjl
          have zb := World.block_lt_of_cell? _ _ x1
          have Han := Lib.hid (addAll_next (l := addAll [] (rs.take k).flatten) hjl)
          have hpn := Hr2.out _ (List.getElem_mem hjl)
          generalize r[j] = p at *
          obtain ⟨px, py⟩ := p
          unfold NearP at hpn
          simp only [] at x1 x2 hpn
          go_upto_region 11 with fail
          refine name_world (fun Wp hWp => ?_)
          have hbp : Later wr Wp := by rw [hWp]; exact (by repeat' (with_reducible first | exact Later.refl _ | assumption | refine Later.drew ?_ | refine Later.drewN ?_ _ | refine Later.alloc ?_ _ | refine Later.put ?_ (by omega) _ | refine Later.trans ?_ (by assumption)))
          have Dp : Blk Wp wr.heap.size 29 #[.int .i64 px, .int .i64 py] := by rw [hWp]; exact (by repeat' (with_reducible first | assumption | (refine Blk.newAt ?_; simp; done) | refine Blk.alloc ?_ _ | refine Blk.drew ?_ | refine Blk.drewN ?_ _ | refine Blk.later ?_ (by assumption)))
          clear hWp x1 x2 zb
          have k0 : Wp.cell? ⟨wr.heap.size, 0, none⟩ = some (.int .i64 px) := Dp.cell 0
          have k1 : Wp.cell? ⟨wr.heap.size, 1, none⟩ = some (.int .i64 py) := Dp.cell 1
          have zp := Dp.lt
          obtain ⟨w5, y1, y2, y3, y4⟩ := (Hs2.out.later hbp).add (p := ⟨px, py⟩) (by unfold I64P; simp only []; omega)
          unfold encP at y1
          simp only [] at y1
          have Hy2 := Lib.hid y2
          have hl5 : Later w1 w5 := Later.grown (hbq.trans hbp) y3 (fun g e => by cases e; rw [Hme.out]; exact Nat.le_refl _)
          clear y2 y3
          go_wp2
          go_roundw
          case rel => exact ⟨j + 1, by omega, by go_num, Lib.hid (by rw [Han.out]; exact Hy2.out), hl5⟩
          case measure => simp [intOf]; omega
        · have hje : r.take j = r := List.take_of_length_le (by omega)
          rw [hje, ← addAll_app, ← Hfn.out] at Hs2
          go_wp2
          go_roundw
          case rel => exact ⟨k + 1, by omega, by go_num, Hs2, hbq⟩
          case measure => simp [intOf]; omega
    · have hke : rs.take k = rs := List.take_of_length_le (by omega)
      rw [hke] at Hs
      have hfl : (addAll [] rs.flatten).length ≤ 81 * 72 := by
        have h1 := addAll_len rs.flatten []
        have h2 := flat_bd (n := 72) (fun r hr => (Hrow.out r hr).1)
        have h3 : rs.length * 72 ≤ 81 * 72 := Nat.mul_le_mul_right _ (by omega)
        rw [List.length_nil] at h1
        omega
      have hmem : ∀ v, v ∈ addAll [] rs.flatten ↔ ∃ r ∈ rs, v ∈ r := by
        intro v
        rw [addAll_mem, List.mem_flatten]
        simp
      have Hmem := Lib.hid hmem
      clear hmem
      generalize addAll [] rs.flatten = L at *
      obtain ⟨w4, y1, y2, y3, y4⟩ := Hs.out.range Tryz.underlying161
      have Hy2 := Lib.hid y2
      have hl4 : Later w1 w4 := Later.grown hb y3 (fun g e => by cases e)
      have hmlt := Hs.out.lt
      clear y2
      go_upto_region 16 with fail
      have hitz : w1.heap.size ≤ wr.heap.size := hb.size
      have hitl : wr.heap.size < w4.heap.size := by omega
      generalize wr.heap.size = it at *
      have Hbm := Lib.hid (fun p (hp : p ∈ L) => (by
        obtain ⟨r, hr, hpr⟩ := (Hmem.out p).1 hp
        exact (Hrow.out r hr).2 p hpr : NearP 2097152 p))
      have hmi : m < w4.heap.size := by rw [y4]; omega
      go_loopw [13] (fun v wr => ∃ done : List Pt, OwnR wr w4.heap.size 29 2 pt2 v (done.filter fun p => !blockB rs p) ∧ Hid (IterM encP I64P wr m it L done) ∧ Later w1 wr ∧ w4.heap.size ≤ wr.heap.size) (fun _ wr => wr.rangeLeft m it)
      case atStart => exact ⟨[], World.ownsRow_nil _ _ _ _, Hy2, hl4, Nat.le_refl _⟩
      case round =>
        obtain ⟨done, ho, HI, hbq, hzz⟩ := hrel
        have Ho := Lib.hid ho
        clear ho
        have hdl : done.length ≤ L.length := by
          obtain ⟨es, clock, since, seen, c0, _, _, _, _, _, _, hln, _, _, _, _, hdn, hdL, _⟩ := HI.out
          rcases Nat.lt_or_ge L.length done.length with h | h
          · have := (perm_of_sub hdn hdL (by omega)).length_eq
            omega
          · exact h
        have hfl2 : (done.filter fun p => !blockB rs p).length ≤ done.length := List.length_filter_le _ _
        rcases HI.out.next spot_enc 0 with ⟨hperm, hrun⟩ | ⟨p, w5, hpL, hpd, hrun, hI5, hlt5, hg5, hz5, hent⟩
        · have hnd : (sortP (done.filter fun p => !blockB rs p)).Nodup := by
            obtain ⟨es, clock, since, seen, c0, _, _, _, _, _, _, hln, _, _, _, _, hdn, hdL, _⟩ := HI.out
            exact (sort_perm _).nodup_iff.2 (hdn.filter _)
          have hRR : sortP (done.filter fun p => !blockB rs p) = R := HSp.out rs Hm.out _ hnd (fun v => by
            rw [sort_mem, List.mem_filter, hperm.mem_iff, Hmem.out]
            simp) (sort_asc _)
          have HSo := sort_any 70 eg_nofit nofit_cmp w4.heap.size u13 (done.filter fun p => !blockB rs p) wr Ho.out (by omega)
          rw [hRR] at HSo
          have HSo := Lib.hid HSo
          have hlw : Later w wr := hb1.trans hbq
          have hz4 : w.heap.size ≤ w4.heap.size := by have := hb1.size; omega
          clear hnd hRR hperm hfl2 hdl
          go_wp2_with (go_at_call 91; (with_reducible refine HSo.out.mono ?_); rintro e w6 ⟨rfl, ho6, hg6⟩)
          go_ret2
          exact ⟨_, rfl, own_low ho6 hz4, Later.grown hlw hg6 (fun g hg => by have := (World.ownsRow.lt Ho.out g hg).1; omega)⟩
        · have hpn := Hbm.out p hpL
          have Hflt := Lib.hid (show (done ++ [p]).filter (fun p => !blockB rs p) = (done.filter fun p => !blockB rs p) ++ if blockB rs p = false then [p] else [] by
            rw [List.filter_append]
            congr 1
            by_cases hq : blockB rs p = true
            · simp [hq]
            · simp [hq])
          have HBp := Lib.hid (fun W (hW : Later w1 W) => HB.out p W hW)
          obtain ⟨px, py⟩ := p
          unfold encP at hrun hent
          simp only [] at hrun hent
          have Ho5 := Lib.hid (OwnR.ofBlock Ho.out (fun g e => hg5.block g (World.ownsRow.lt Ho.out g e).2 (fun e2 => by cases e2; have := (World.ownsRow.lt Ho.out _ e).1; omega)))
          have hl5 : Later w1 w5 := Later.grown hbq hg5 (fun g e => by cases e; omega)
          have HI5 := Lib.hid hI5
          have hz5' : w4.heap.size ≤ w5.heap.size := by omega
          clear hI5 hg5 hpn hpd hpL hz5
          go_upto_region 18 with fail
          refine name_world (fun Wp hWp => ?_)
          have hbp : Later w5 Wp := by rw [hWp]; exact (by repeat' (with_reducible first | exact Later.refl _ | assumption | refine Later.drew ?_ | refine Later.drewN ?_ _ | refine Later.alloc ?_ _ | refine Later.put ?_ (by omega) _ | refine Later.trans ?_ (by assumption)))
          have Dp : Blk Wp w5.heap.size 29 #[.int .i64 px, .int .i64 py] := by rw [hWp]; exact (by repeat' (with_reducible first | assumption | (refine Blk.newAt ?_; simp; done) | refine Blk.alloc ?_ _ | refine Blk.drew ?_ | refine Blk.drewN ?_ _ | refine Blk.later ?_ (by assumption)))
          clear hWp hrun hent
          have k0 : Wp.cell? ⟨w5.heap.size, 0, none⟩ = some (.int .i64 px) := Dp.cell 0
          have k1 : Wp.cell? ⟨w5.heap.size, 1, none⟩ = some (.int .i64 py) := Dp.cell 1
          have zp := Dp.lt
          obtain ⟨q, hq⟩ : ∃ q, blockB rs ⟨px, py⟩ = q := ⟨_, rfl⟩
          rw [hq] at HBp Hflt
          clear hq
          generalize hgp : w5.heap.size = gp at k0 k1 zp Dp ⊢
          clear hgp
          have key := Lib.hid (show ∀ (W : World), W.heap[m]? = w5.heap[m]? → W.heap[it]? = w5.heap[it]? → W.rangeLeft m it < wr.rangeLeft m it from fun W h1 h2 => by have := left_same h1 h2; omega)
          obtain ⟨hm5, hi5, _⟩ := HI5.out.lt
          have hne := Lib.hid (show some m ≠ u13.ownBlock ∧ some it ≠ u13.ownBlock from ⟨fun e => by have := (World.ownsRow.lt Ho.out _ e.symm).1; omega, fun e => by have := (World.ownsRow.lt Ho.out _ e.symm).1; omega⟩)
          have hlp : Later w1 Wp := hl5.trans hbp
          have hsz := hbp.size
          rcases q with _ | _
          · rw [if_pos rfl] at Hflt
            go_upto_region 19 with (go_at_call 34; (with_reducible refine (HBp.out _ hlp).mono ?_); rintro e w6 ⟨rfl, hb6⟩)
            have hl6 : Later w5 w6 := hbp.trans hb6
            have D6 := Dp.later hb6
            have hsz6 := hl6.size
            clear k0 k1 zp
            have k0 : w6.cell? ⟨gp, 0, none⟩ = some (.int .i64 px) := D6.cell 0
            have k1 : w6.cell? ⟨gp, 1, none⟩ = some (.int .i64 py) := D6.cell 1
            have zp := D6.lt
            have Ho6 := Lib.hid (Ho5.out.later hl6)
            go_wp2_with (at_builtin; refine wpList_append_rec slt_spot pt2_len pt2_one rfl (.tmp 51) (.tmp 53) rfl (base := w4.heap.size) (l := done.filter fun p => !blockB rs p) rfl (OwnR.alloc Ho6.out _) (A := some ⟨w6.heap.size, 0, none⟩) (c := 1) [⟨px, py⟩] rfl (by intro h; cases h) (SrcAt.blk (cs := #[.int .i64 px, .int .i64 py]) (by repeat' (with_reducible first | assumption | (refine Blk.newAt ?_; simp; done) | refine Blk.alloc ?_ _ | refine Blk.drew ?_ | refine Blk.drewN ?_ _ | refine Blk.later ?_ (by assumption)))) (by simp; omega) (by simp; omega) ?_; intro A7 c7 w7 ho7 hg7)
            have hl6a : Later w5 (w6.alloc (.cells #[.int .i64 px, .int .i64 py] 29)) := hl6.alloc _
            have q1 := (hg7.block m (by simp; omega) hne.out.1).trans (hl6a.block m hm5)
            have q2 := (hg7.block it (by simp; omega) hne.out.2).trans (hl6a.block it hi5)
            have HI7 := Lib.hid (HI5.out.of q1 q2)
            have Ho7 := Lib.hid ho7
            have hl7 : Later w1 w7 := Later.grown (hl5.trans hl6a) hg7 (fun g hg => by have := (World.ownsRow.lt Ho.out g hg).1; omega)
            have hz7 : w4.heap.size ≤ w7.heap.size := by have := hg7.size; simp at this; omega
            have hrl := key.out w7 q1 q2
            clear ho7 hg7 q1 q2 hl6a
            go_roundw
            case rel => exact ⟨done ++ [⟨px, py⟩], by rw [Hflt.out]; exact own_len Ho7.out (by simp), HI7, hl7, hz7⟩
            case measure => exact hrl
          · rw [if_neg (by simp), List.append_nil] at Hflt
            go_wp2_with (go_at_call 34; (with_reducible refine (HBp.out _ hlp).mono ?_); rintro e w6 ⟨rfl, hb6⟩)
            have hl6 : Later w5 w6 := hbp.trans hb6
            have hsz6 := hl6.size
            have q1 := hl6.block m hm5
            have q2 := hl6.block it hi5
            have HI7 := Lib.hid (HI5.out.of q1 q2)
            have hrl := key.out w6 q1 q2
            go_roundw
            case rel => exact ⟨done ++ [⟨px, py⟩], by rw [Hflt.out]; exact Ho5.out.later hl6, HI7, hl5.trans hl6, by omega⟩
            case measure => exact hrl
end Go.Proofs.YtdhakoecjmaebaaGreat
/-
  Single steps of a region that draws its order.
-/
namespace Go.Proofs.YtdhakoecjmaebaaGreat
open Go.RowKit
set_option linter.unusedSimpArgs false
set_option linter.unusedVariables false

theorem OwnR.ofBlk {α : Type} {cells : α → List Value} {sz : Nat} {w w' : World} {base : Nat} {E : TypeId} {v : Value} {l : List α} (h : OwnR w base E sz cells v l) (hb : ∀ g, v.ownBlock = some g → w'.heap[g]? = w.heap[g]?) : OwnR w' base E sz cells v l := by
  refine ⟨h.1, ?_⟩
  rcases h.2 with ⟨h1, h2⟩ | ⟨g, cap, cur, hv, hbg, hg, r⟩
  · exact .inl ⟨h1, h2⟩
  · exact .inr ⟨g, cap, cur, hv, hbg, (hb g (by rw [hv]; rfl)).trans hg, r⟩
section
variable {P : Program} {ops : Array Oper} {Q : Exit → Act → World → Prop} {md : Region.Mode} {S : World → Prop}
theorem ready_val' {i : Nat} {o : Oper} {v : Value} {fuel : Nat} {listed : Array Bool} {a : Act} {w w' : World} {rs : List Nat} (ho : ops[i]? = some o) (hw : Region.wanted o (yielded ops a.tmps) = true) (he : (execOp a.eval o).run P w = .ok (.value v) w') (hS : S w')
    (h : wpAnyH P md ops Q S fuel (listed.setIfInBounds i true) (a.put o.dst v) w') (hs : AllReadyH P md ops Q S fuel listed a w rs) : AllReadyH P md ops Q S fuel listed a w (i :: rs) := by
  refine AllReadyH.cons ho (fun K hK => ?_) hs
  rw [if_pos hw]
  unfold Oper.wp
  rw [he]
  exact hK.out _ _ hS (fun _ => h)
end
/- Single steps of a region that draws its order: an append, and an operation that is the only one ready. -/
section
variable {α : Type} {cells : α → List Value} {sz : Nat} {P : Program} {ops : Array Oper} {Q : Exit → Act → World → Prop} {md : Region.Mode} {S : World → Prop}
theorem val_at {i d : Nat} {o : Oper} {v : Value} {fuel : Nat} {listed : Array Bool} {a : Act} {w w' : World} (hr : Region.ready md ops listed = [i]) (ho : ops[i]? = some o) (hd : o.dst = some d)
    (hw : Region.wanted o (yielded ops a.tmps) = true) (he : (execOp a.eval o).run P w = .ok (.value v) w') (hS : S w')
    (h : wpAnyH P md ops Q S fuel (listed.setIfInBounds i true) (a.put (some d) v) w') : wpAnyH P md ops Q S (fuel + 1) listed a w :=
  wpAnyH_ready hr (by simp) (ready_val' ho hw he hS (hd.symm ▸ h) AllReadyH.nil)
end
end Go.Proofs.YtdhakoecjmaebaaGreat
