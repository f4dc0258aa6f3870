/-
  The walk of splice.Best.
-/
import Derived.Test.YtdhakoecjmaebaaSplW
import Derived.Test.YtdhakoecjmaebaaSprQ
namespace Go.Proofs.Ytdhakoecjmaebaa
open Go.RowKit
set_option linter.unusedSimpArgs false
set_option linter.unusedVariables false

theorem bestR_bad {len lo hi : Int} {polys : List (List Pt)} (h : (extentsR len polys).2 ≠ 0) : BestR len polys lo hi = (⟨0, 0⟩, (extentsR len polys).2) := by unfold BestR; rw [if_pos h]
theorem bestR_range {len lo hi : Int} {polys : List (List Pt)} (h : (extentsR len polys).2 = 0) (h2 : lo < 0 ∨ hi < lo ∨ len < hi) : BestR len polys lo hi = (⟨0, 0⟩, 3) := by unfold BestR; rw [if_neg (by simpa using h), if_pos h2]
theorem bestR_in {len lo hi : Int} {polys : List (List Pt)} (h : (extentsR len polys).2 = 0) (h2 : ¬ (lo < 0 ∨ hi < lo ∨ len < hi)) :
    BestR len polys lo hi = if (bestGo (extentsR len polys).1 lo hi (endsOf (extentsR len polys).1 hi)).1 = true then ((bestGo (extentsR len polys).1 lo hi (endsOf (extentsR len polys).1 hi)).2, 0) else (⟨0, 0⟩, 18) := by
  unfold BestR; rw [if_neg (by simpa using h), if_neg h2]
theorem ends_snoc (zs : List Pt) (hi : Int) {k : Nat} (hk : k < zs.length) : endsOf (zs.take (k + 1)) hi = endsOf (zs.take k) hi ++ [zs[k].x, zs[k].y] := by
  unfold endsOf
  rw [List.take_succ_eq_append_getElem hk, List.flatMap_append]
  rfl
theorem ends_len (zs : List Pt) (hi : Int) : (endsOf zs hi).length = 2 * zs.length + 1 := by
  unfold endsOf
  rw [List.length_cons]
  congr 1
  induction zs with
  | nil => rfl
  | cons z l ih => rw [List.flatMap_cons, List.length_append, ih]; simp; omega
/-- Zones within the marker. -/
def ZIn (zs : List Pt) : Prop := ∀ z ∈ zs, 0 ≤ z.x ∧ z.x ≤ z.y ∧ z.y ≤ 1048576
theorem ends_bd {zs : List Pt} {hi : Int} (hz : ZIn zs) (h : 0 ≤ hi ∧ hi ≤ 1048576) : ∀ n ∈ endsOf zs hi, 0 ≤ n ∧ n ≤ 1048576 := by
  intro n hn
  rcases mem_ends.1 hn with rfl | ⟨y, hy, rfl | rfl⟩
  · exact h
  · have := hz y hy; omega
  · have := hz y hy; omega
theorem back_bd {zs : List Pt} {h : Int} (hz : ZIn zs) (h0 : 0 ≤ h ∧ h ≤ 1048576) : 0 ≤ backR zs h ∧ backR zs h ≤ 1048576 := by
  have := back_le zs h
  have := back_lb (l := zs) (hi := h) (m := 0) (fun z k => (hz z k).1) h0.1
  omega
theorem best_far {zs : List Pt} {lo hi h : Int} {s : Bool × Pt} (h1 : hi < h ∨ backR zs h ≤ lo) : bestStep zs lo hi s h = s := by unfold bestStep; rw [if_pos h1]
theorem best_take {zs : List Pt} {lo hi h : Int} {s : Bool × Pt} (h1 : ¬ (hi < h ∨ backR zs h ≤ lo)) (h2 : s.1 = false ∨ (h - backR zs h - (s.2.y - s.2.x) < 0 ∨ h - backR zs h - (s.2.y - s.2.x) = 0 ∧ s.2.y < h)) : bestStep zs lo hi s h = (true, ⟨backR zs h, h⟩) := by unfold bestStep; rw [if_neg h1, if_pos h2]
theorem best_keep {zs : List Pt} {lo hi h : Int} {s : Bool × Pt} (h1 : ¬ (hi < h ∨ backR zs h ≤ lo)) (h2 : ¬ (s.1 = false ∨ (h - backR zs h - (s.2.y - s.2.x) < 0 ∨ h - backR zs h - (s.2.y - s.2.x) = 0 ∧ s.2.y < h))) : bestStep zs lo hi s h = s := by unfold bestStep; rw [if_neg h1, if_neg h2]
theorem lo_hi_x (ps : List Pt) : (loOf ps).x ≤ (hiOf ps).x := by
  have h1 : ∀ (l : List Pt) (a : Pt), (l.foldl loP a).x ≤ a.x := by
    intro l
    induction l with
    | nil => intro a; exact Int.le_refl _
    | cons p l ih => intro a; rw [List.foldl_cons]; refine Int.le_trans (ih _) ?_; unfold loP; simp only []; omega
  have h2 : ∀ (l : List Pt) (a : Pt), a.x ≤ (l.foldl hiP a).x := by
    intro l
    induction l with
    | nil => intro a; exact Int.le_refl _
    | cons p l ih => intro a; rw [List.foldl_cons]; refine Int.le_trans ?_ (ih _); unfold hiP; simp only []; omega
  exact Int.le_trans (h1 ps _) (h2 ps _)
theorem ext_in {len : Int} {polys : List (List Pt)} (h : (extentsR len polys).2 = 0) : ZIn (extentsR len polys).1 := by
  obtain ⟨e1, e2⟩ := ext_zones h
  obtain ⟨l1, l2, _⟩ := ext_zero h
  rw [e1]
  intro z hz
  obtain ⟨p, hp, rfl⟩ := List.mem_map.1 hz
  obtain ⟨c1, c2, c3⟩ := e2 p hp
  have := lo_hi_x p
  simp only []
  omega

set_option maxHeartbeats 8000000 in
set_option maxRecDepth 100000 in
theorem splice_Best_in (Q : Option Addr) (qc : Nat) (len lo hi : Int) (polys : List (List Pt)) (w : World) (hps : Polys w Q polys) (hpl : ∀ p ∈ polys, p.length ≤ 1099511627776) (he0 : (extentsR len polys).2 = 0) (hr : ¬ (lo < 0 ∨ hi < lo ∨ len < hi)) :
    Calls Try.prog 30 #[.int .i64 len, .slice Q polys.length qc, .int .i64 lo, .int .i64 hi] w (Ret (.tuple #[.agg #[.int .i64 (BestR len polys lo hi).1.x, .int .i64 (BestR len polys lo hi).1.y], .int .i64 (BestR len polys lo hi).2]) w) := by
  have HE := Lib.hid (fun W (hW : Later w W) => splice_extents Q qc len polys W (hps.later hW) hpl)
  have hl := ext_len len polys
  have hzi := ext_in he0
  have hlen := ext_zero he0
  have Hin := Lib.hid (bestR_in (len := len) (polys := polys) (lo := lo) (hi := hi) he0 hr)
  generalize extentsR len polys = E at *
  generalize BestR len polys lo hi = R at *
  obtain ⟨zs, er⟩ := E
  simp only [] at *
  subst he0
  have d1 : decide (lo < 0) = false := by simp; omega
  have d2 : decide (hi < lo) = false := by simp; omega
  have d3 : decide (len < hi) = false := by simp; omega
  have hhi : 0 ≤ hi ∧ hi ≤ 1048576 := by omega
  have Hend := Lib.hid (ends_bd hzi hhi)
  have Hbk := Lib.hid (fun h hh => back_bd (h := h) hzi hh)
  clear hps hlen hr hzi
  go_enter Try.func30, Try.ntmps30
  go_upto_region 6 with (first | (go_at_call 37; (with_reducible refine (HE.out _ (by repeat' (with_reducible first | exact Later.refl _ | assumption | refine Later.drew ?_ | refine Later.drewN ?_ _ | refine Later.alloc ?_ _ | refine Later.put ?_ (by omega) _ | refine Later.trans ?_ (by assumption)))).mono ?_); rintro e w1 (⟨_, A1, c1, rfl, q1, q2, q3, hb1⟩ | ⟨q0, _⟩); rotate_left; exact absurd rfl q0; have R0 : w1.cell? ⟨w.heap.size, 0, none⟩ = some (.int .i64 0) := hb1.cell (by simp [go_sem]); have R1 : w1.cell? ⟨w.heap.size, 1, none⟩ = some (.int .i64 0) := hb1.cell (by simp [go_sem])))
  have hlw1 : Later w w1 := (by repeat' (with_reducible first | exact Later.refl _ | assumption | refine Later.drew ?_ | refine Later.drewN ?_ _ | refine Later.alloc ?_ _ | refine Later.put ?_ (by omega) _ | refine Later.trans ?_ (by assumption)))
  have D8 : Blk w1 w.heap.size 94 #[.int .i64 0, .int .i64 0] := Blk.later (by repeat' (with_reducible first | assumption | (refine Blk.newAt ?_; simp; done) | refine Blk.alloc ?_ _ | refine Blk.drew ?_ | refine Blk.drewN ?_ _ | refine Blk.later ?_ (by assumption))) hb1
  clear hb1 HE d1 d2 d3 R0 R1
  have zN : w.heap.size < w1.heap.size := D8.lt
  generalize hN : w.heap.size = N at *
  have HN := Lib.hid hN
  clear hN
  go_wp2
  go_loopw [12, 48] (fun v iv wr => ∃ k : Nat, k ≤ zs.length ∧ iv = .int .i64 k ∧ OwnR wr w1.heap.size 3 1 i1 v (endsOf (zs.take k) hi) ∧ Later w1 wr) (fun _ iv _ => zs.length - (intOf iv).toNat)
  case atStart => exact ⟨0, by omega, rfl, OwnR.lit [hi] #[.int .i64 hi] rfl i1_len (by simp) (Nat.le_refl _) rfl rfl, (Later.refl _).alloc _⟩
  case round =>
    obtain ⟨k, hk, rfl, ho, hb⟩ := hrel
    have Ho := Lib.hid ho
    clear ho
    by_cases hlt : k < zs.length
    · obtain ⟨b, o, rfl, e1, e2⟩ := (q3.later hb).at_ hlt
      have hbz : b < wr.heap.size := World.block_lt_of_cell? _ _ e1
      have Hsn := Lib.hid (ends_snoc zs hi hlt)
      have Hel := Lib.hid (show (endsOf (zs.take k) hi).length ≤ 121 by rw [ends_len]; simp; omega)
      generalize zs[k] = z at *
      obtain ⟨zx, zy⟩ := z
      simp only [] at e1 e2 Hsn
      generalize endsOf (zs.take k) hi = acc at *
      go_upto_region 10 with fail
      refine name_world (fun W9 hW9 => ?_)
      have hl9 : Later wr W9 := by rw [hW9]; exact (by repeat' (with_reducible first | exact Later.refl _ | assumption | refine Later.drew ?_ | refine Later.drewN ?_ _ | refine Later.alloc ?_ _ | refine Later.put ?_ (by omega) _ | refine Later.trans ?_ (by assumption)))
      have z0 : W9.cell? ⟨wr.heap.size, 0, none⟩ = some (.int .i64 zx) := by rw [hW9]; simp [go_sem]
      have z1 : W9.cell? ⟨wr.heap.size, 1, none⟩ = some (.int .i64 zy) := by rw [hW9]; simp [go_sem]
      have hgz : wr.heap.size < W9.heap.size := World.block_lt_of_cell? _ _ z0
      clear hW9
      have HS := Lib.hid (SrcAt.blk (Blk.new W9 3 #[.int .i64 zx, .int .i64 zy]))
      have Hsz := Lib.hid hb.size
      generalize hg9 : wr.heap.size = g9 at z0 z1 hgz ⊢
      clear hg9
      go_wp2_with (at_builtin; refine wpList_append_rec slt_ints i1_len i1_one rfl (.tmp 52) (.tmp 57) rfl (base := w1.heap.size) (l := acc) rfl (OwnR.alloc (Ho.out.later hl9) _) (A := some ⟨W9.heap.size, 0, none⟩) (c := 2) [zx, zy] rfl (by intro h; cases h) HS.out (by have := Hel.out; simp; omega) (by have := Hsz.out; have := hl9.size; simp; omega) ?_; intro A3 c3' w3 ho3 hg3)
      have hl3 : Later w1 w3 := Later.grown ((hb.trans hl9).alloc _) hg3 (fun g hg => (World.ownsRow.lt Ho.out g hg).1)
      clear hg3
      have Ho3 := Lib.hid ho3
      clear ho3
      simp only [List.length_append, List.length_cons, List.length_nil] at Ho3
      go_roundw
      case rel => exact ⟨k + 1, by omega, by go_num, by rw [Hsn.out]; exact Ho3.out, hl3⟩
      case measure => simp [intOf]; omega
    · have hke : k = zs.length := by omega
      rw [hke, List.take_length] at Ho
      have Hel := Lib.hid (show (endsOf zs hi).length ≤ 121 by rw [ends_len]; omega)
      obtain ⟨A6, c6, e6, p1, p2, p3⟩ := Ho.out.ints
      subst e6
      clear hke Ho
      have Hbz := Lib.hid (fun n (hn : n ∈ endsOf zs hi) => Hend.out n hn)
      generalize hes : endsOf zs hi = es at *
      have Hes := Lib.hid hes
      have hel := Hel.out
      clear hes Hend Hel
      obtain ⟨wo, rfl⟩ : ∃ wo : World, wo = wr := ⟨_, rfl⟩
      have D8o := D8.later hb
      go_wp2
      have Hzb := Lib.hid (rfl : wo.heap.size = wo.heap.size)
      go_loopw [16, 62] (fun v iv wq => ∃ (k : Nat) (s : Bool × Pt), k ≤ es.length ∧ iv = .int .i64 k ∧ v = .bool s.1 ∧ bestGo zs lo hi es = (es.drop k).foldl (bestStep zs lo hi) s ∧ Later wo wq ∧ Blk wq wo.heap.size 94 #[.int .i64 s.2.x, .int .i64 s.2.y] ∧ (0 ≤ s.2.x ∧ s.2.x ≤ 1048576 ∧ 0 ≤ s.2.y ∧ s.2.y ≤ 1048576)) (fun _ iv _ => es.length - (intOf iv).toNat)
      case atStart => exact ⟨0, (false, ⟨0, 0⟩), by omega, rfl, rfl, rfl, (Later.refl _).alloc _, Blk.new _ _ _, by decide⟩
      case round =>
        obtain ⟨k, ⟨sf, ⟨sx, sy⟩⟩, hk, rfl, rfl, he, hb, hD, hbd⟩ := hrel
        simp only [] at hD hbd he
        have He := Lib.hid he
        have HD := Lib.hid hD
        have Hbd := Lib.hid hbd
        have s0 : wr.cell? ⟨wo.heap.size, 0, none⟩ = some (.int .i64 sx) := hD.cell 0
        have s1 : wr.cell? ⟨wo.heap.size, 1, none⟩ = some (.int .i64 sy) := hD.cell 1
        have zb : wo.heap.size < wr.heap.size := hD.lt
        clear he hD
        by_cases hlt : k < es.length
        · obtain ⟨b, o, rfl, e1⟩ := (p3.later hb).at_ hlt
          have hbz : b < wr.heap.size := World.block_lt_of_cell? _ _ e1
          have Hd := Lib.hid (drop_cons' es k hlt)
          have hh := Hbz.out _ (List.getElem_mem hlt)
          generalize es[k] = h at *
          have HB := Lib.hid (fun W (hW : Later wr W) => splice_back A1 c1 zs h W (q3.later ((by assumption : Later w1 wo).trans (hb.trans hW))) (by omega))
          have hbk := Hbk.out h hh
          have Hfar := Lib.hid (best_far (zs := zs) (lo := lo) (hi := hi) (h := h) (s := (sf, ⟨sx, sy⟩)))
          have Htake := Lib.hid (best_take (zs := zs) (lo := lo) (hi := hi) (h := h) (s := (sf, ⟨sx, sy⟩)))
          have Hkeep := Lib.hid (best_keep (zs := zs) (lo := lo) (hi := hi) (h := h) (s := (sf, ⟨sx, sy⟩)))
          generalize backR zs h = bk at *
          simp only [] at Hfar Htake Hkeep
          have HbdN := Lib.hid (show 0 ≤ bk ∧ bk ≤ 1048576 ∧ 0 ≤ h ∧ h ≤ 1048576 by omega)
          generalize hgb : wo.heap.size = gb at *
          have Hgb := Lib.hid hgb
          clear hgb
          by_cases h1 : hi < h
          · have d1 : decide (hi < h) = true := by simpa using h1
            go_wp2_with (first | (go_at_call 38; (with_reducible refine (HB.out _ (Later.refl _)).mono ?_); rintro e w5 ⟨rfl, hb5⟩; have g0 : w5.cell? ⟨gb, 0, none⟩ = some (.int .i64 sx) := hb5.cell s0; have g1 : w5.cell? ⟨gb, 1, none⟩ = some (.int .i64 sy) := hb5.cell s1; have gz : gb < w5.heap.size := Nat.lt_of_lt_of_le zb hb5.size; have f0 := (HD.out.later hb5).frozen 0; have f1 := (HD.out.later hb5).frozen 1))
            go_roundw
            case rel => exact ⟨k + 1, (sf, ⟨sx, sy⟩), by omega, by go_num, rfl, by rw [He.out, Hd.out, List.foldl_cons, Hfar.out (.inl h1)], (hb.trans hb5).alloc _, (HD.out.later hb5).alloc _, Hbd.out⟩
            case measure => simp [intOf]; omega
          have d1 : decide (hi < h) = false := by simpa using h1
          by_cases h2 : bk ≤ lo
          · have d2 : decide (bk ≤ lo) = true := by simpa using h2
            go_wp2_with (first | (go_at_call 38; (with_reducible refine (HB.out _ (Later.refl _)).mono ?_); rintro e w5 ⟨rfl, hb5⟩; have g0 : w5.cell? ⟨gb, 0, none⟩ = some (.int .i64 sx) := hb5.cell s0; have g1 : w5.cell? ⟨gb, 1, none⟩ = some (.int .i64 sy) := hb5.cell s1; have gz : gb < w5.heap.size := Nat.lt_of_lt_of_le zb hb5.size; have f0 := (HD.out.later hb5).frozen 0; have f1 := (HD.out.later hb5).frozen 1))
            go_roundw
            case rel => exact ⟨k + 1, (sf, ⟨sx, sy⟩), by omega, by go_num, rfl, by rw [He.out, Hd.out, List.foldl_cons, Hfar.out (.inr h2)], (hb.trans hb5).alloc _, (HD.out.later hb5).alloc _, Hbd.out⟩
            case measure => simp [intOf]; omega
          have d2 : decide (bk ≤ lo) = false := by simpa using h2
          cases sf
          · skip
            go_wp2_with (first | (go_at_call 38; (with_reducible refine (HB.out _ (Later.refl _)).mono ?_); rintro e w5 ⟨rfl, hb5⟩; have g0 : w5.cell? ⟨gb, 0, none⟩ = some (.int .i64 sx) := hb5.cell s0; have g1 : w5.cell? ⟨gb, 1, none⟩ = some (.int .i64 sy) := hb5.cell s1; have gz : gb < w5.heap.size := Nat.lt_of_lt_of_le zb hb5.size; have f0 := (HD.out.later hb5).frozen 0; have f1 := (HD.out.later hb5).frozen 1))
            go_region
            all_goals
              go_wp2
              go_roundw
              case rel =>
                refine ⟨k + 1, (true, ⟨bk, h⟩), by omega, by go_num, rfl, by rw [He.out, Hd.out, List.foldl_cons, Htake.out (by omega) (.inl (by first | trivial | rfl))], ?_, ?_, HbdN.out⟩
                · first | exact ((((hb.trans hb5).put (by have := Hgb.out; omega) _).put (by have := Hgb.out; omega) _).alloc _).drew | exact ((((hb.trans hb5).alloc _).drew.put (by have := Hgb.out; omega) _).put (by have := Hgb.out; omega) _)
                · first | exact ((HD.out.later hb5).two.alloc _).drew | exact ((HD.out.later hb5).alloc _).drew.two
              case measure => simp [intOf]; omega
          by_cases h3 : h - bk - (sy - sx) < 0
          · have d3 : decide (h - bk - (sy - sx) < 0) = true := by simpa using h3
            go_wp2_with (first | (go_at_call 38; (with_reducible refine (HB.out _ (Later.refl _)).mono ?_); rintro e w5 ⟨rfl, hb5⟩; have g0 : w5.cell? ⟨gb, 0, none⟩ = some (.int .i64 sx) := hb5.cell s0; have g1 : w5.cell? ⟨gb, 1, none⟩ = some (.int .i64 sy) := hb5.cell s1; have gz : gb < w5.heap.size := Nat.lt_of_lt_of_le zb hb5.size; have f0 := (HD.out.later hb5).frozen 0; have f1 := (HD.out.later hb5).frozen 1))
            go_region
            all_goals
              go_wp2
              go_roundw
              case rel =>
                refine ⟨k + 1, (true, ⟨bk, h⟩), by omega, by go_num, rfl, by rw [He.out, Hd.out, List.foldl_cons, Htake.out (by omega) (.inr (.inl h3))], ?_, ?_, HbdN.out⟩
                · first | exact ((((hb.trans hb5).put (by have := Hgb.out; omega) _).put (by have := Hgb.out; omega) _).alloc _).drew | exact ((((hb.trans hb5).alloc _).drew.put (by have := Hgb.out; omega) _).put (by have := Hgb.out; omega) _)
                · first | exact ((HD.out.later hb5).two.alloc _).drew | exact ((HD.out.later hb5).alloc _).drew.two
              case measure => simp [intOf]; omega
          have d3 : decide (h - bk - (sy - sx) < 0) = false := by simpa using h3
          by_cases h4 : h - bk - (sy - sx) = 0
          · have d4 : (h - bk - (sy - sx) == 0) = true := by simpa using h4
            by_cases h5 : sy < h
            · have d5 : decide (sy < h) = true := by simpa using h5
              go_wp2_with (first | (go_at_call 38; (with_reducible refine (HB.out _ (Later.refl _)).mono ?_); rintro e w5 ⟨rfl, hb5⟩; have g0 : w5.cell? ⟨gb, 0, none⟩ = some (.int .i64 sx) := hb5.cell s0; have g1 : w5.cell? ⟨gb, 1, none⟩ = some (.int .i64 sy) := hb5.cell s1; have gz : gb < w5.heap.size := Nat.lt_of_lt_of_le zb hb5.size; have f0 := (HD.out.later hb5).frozen 0; have f1 := (HD.out.later hb5).frozen 1))
              go_region
              all_goals
                go_wp2
                go_roundw
                case rel =>
                  refine ⟨k + 1, (true, ⟨bk, h⟩), by omega, by go_num, rfl, by rw [He.out, Hd.out, List.foldl_cons, Htake.out (by omega) (.inr (.inr ⟨h4, h5⟩))], ?_, ?_, HbdN.out⟩
                  · first | exact ((((hb.trans hb5).put (by have := Hgb.out; omega) _).put (by have := Hgb.out; omega) _).alloc _).drew | exact ((((hb.trans hb5).alloc _).drew.put (by have := Hgb.out; omega) _).put (by have := Hgb.out; omega) _)
                  · first | exact ((HD.out.later hb5).two.alloc _).drew | exact ((HD.out.later hb5).alloc _).drew.two
                case measure => simp [intOf]; omega
            · have d5 : decide (sy < h) = false := by simpa using h5
              go_wp2_with (first | (go_at_call 38; (with_reducible refine (HB.out _ (Later.refl _)).mono ?_); rintro e w5 ⟨rfl, hb5⟩; have g0 : w5.cell? ⟨gb, 0, none⟩ = some (.int .i64 sx) := hb5.cell s0; have g1 : w5.cell? ⟨gb, 1, none⟩ = some (.int .i64 sy) := hb5.cell s1; have gz : gb < w5.heap.size := Nat.lt_of_lt_of_le zb hb5.size; have f0 := (HD.out.later hb5).frozen 0; have f1 := (HD.out.later hb5).frozen 1))
              go_roundw
              case rel => exact ⟨k + 1, (true, ⟨sx, sy⟩), by omega, by go_num, rfl, by rw [He.out, Hd.out, List.foldl_cons, Hkeep.out (by omega) (by simp; omega)], (hb.trans hb5).alloc _, (HD.out.later hb5).alloc _, Hbd.out⟩
              case measure => simp [intOf]; omega
          · have d4 : (h - bk - (sy - sx) == 0) = false := by simpa using h4
            go_wp2_with (first | (go_at_call 38; (with_reducible refine (HB.out _ (Later.refl _)).mono ?_); rintro e w5 ⟨rfl, hb5⟩; have g0 : w5.cell? ⟨gb, 0, none⟩ = some (.int .i64 sx) := hb5.cell s0; have g1 : w5.cell? ⟨gb, 1, none⟩ = some (.int .i64 sy) := hb5.cell s1; have gz : gb < w5.heap.size := Nat.lt_of_lt_of_le zb hb5.size; have f0 := (HD.out.later hb5).frozen 0; have f1 := (HD.out.later hb5).frozen 1))
            go_roundw
            case rel => exact ⟨k + 1, (true, ⟨sx, sy⟩), by omega, by go_num, rfl, by rw [He.out, Hd.out, List.foldl_cons, Hkeep.out (by omega) (by simp; omega)], (hb.trans hb5).alloc _, (HD.out.later hb5).alloc _, Hbd.out⟩
            case measure => simp [intOf]; omega
        · have H0 := Lib.hid (show bestGo zs lo hi es = (sf, ⟨sx, sy⟩) by rw [He.out, List.drop_eq_nil_of_le (by omega)]; rfl)
          have x0 : wr.cell? ⟨N, 0, none⟩ = some (.int .i64 0) := (D8o.later hb).cell 0
          have x1 : wr.cell? ⟨N, 1, none⟩ = some (.int .i64 0) := (D8o.later hb).cell 1
          have xf0 := (D8o.later hb).frozen 0
          have xf1 := (D8o.later hb).frozen 1
          have Hlw := Lib.hid (hlw1.trans ((by assumption : Later w1 wo).trans hb))
          cases sf
          · have HR := Lib.hid (show R = (⟨0, 0⟩, 18) by rw [Hin.out, H0.out]; rfl)
            go_wp2
            refine bodyPost_ret (v := .tuple #[.agg #[.int .i64 0, .int .i64 0], .int .i64 18]) (by simp [results, Try.results30, go_sem, x0, x1]) rfl ⟨by rw [HR.out], ?_⟩
            exact (Hlw.out.put (by have := HN.out; omega) _).put (by have := HN.out; omega) _
          · have HR := Lib.hid (show R = (⟨sx, sy⟩, 0) by rw [Hin.out, H0.out]; rfl)
            go_wp2
            refine bodyPost_ret (v := .tuple #[.agg #[.int .i64 sx, .int .i64 sy], .int .i64 0]) (by simp [results, Try.results30, go_sem, x0, x1, s0, s1]) rfl ⟨by rw [HR.out], ?_⟩
            exact (Hlw.out.put (by have := HN.out; omega) _).put (by have := HN.out; omega) _

set_option maxHeartbeats 4000000 in
theorem splice_Best_err (Q : Option Addr) (qc : Nat) (len lo hi : Int) (polys : List (List Pt)) (w : World) (hps : Polys w Q polys) (hpl : ∀ p ∈ polys, p.length ≤ 1099511627776) (he0 : (extentsR len polys).2 ≠ 0) :
    Calls Try.prog 30 #[.int .i64 len, .slice Q polys.length qc, .int .i64 lo, .int .i64 hi] w (Ret (.tuple #[.agg #[.int .i64 0, .int .i64 0], .int .i64 (extentsR len polys).2]) w) := by
  have HE := Lib.hid (fun W (hW : Later w W) => splice_extents Q qc len polys W (hps.later hW) hpl)
  generalize extentsR len polys = E at *
  obtain ⟨zs, er⟩ := E
  simp only [] at *
  have dn : (er != 0) = true := by simpa using he0
  go_enter Try.func30, Try.ntmps30
  go_upto_region 2 with (first | (go_at_call 37; (with_reducible refine (HE.out _ (by repeat' (with_reducible first | exact Later.refl _ | assumption | refine Later.drew ?_ | refine Later.drewN ?_ _ | refine Later.alloc ?_ _ | refine Later.put ?_ (by omega) _ | refine Later.trans ?_ (by assumption)))).mono ?_); rintro e w1 (⟨q0, _⟩ | ⟨_, rfl, hb1⟩); exact absurd q0 he0; have R0 : w1.cell? ⟨w.heap.size, 0, none⟩ = some (.int .i64 0) := hb1.cell (by simp [go_sem]); have R1 : w1.cell? ⟨w.heap.size, 1, none⟩ = some (.int .i64 0) := hb1.cell (by simp [go_sem])))
  have D8 : Blk w1 w.heap.size 94 #[.int .i64 0, .int .i64 0] := Blk.later (by repeat' (with_reducible first | assumption | (refine Blk.newAt ?_; simp; done) | refine Blk.alloc ?_ _ | refine Blk.drew ?_ | refine Blk.drewN ?_ _ | refine Blk.later ?_ (by assumption))) hb1
  have hlw1 : Later w w1 := (by repeat' (with_reducible first | exact Later.refl _ | assumption | refine Later.drew ?_ | refine Later.drewN ?_ _ | refine Later.alloc ?_ _ | refine Later.put ?_ (by omega) _ | refine Later.trans ?_ (by assumption)))
  have xf0 := D8.frozen 0
  have xf1 := D8.frozen 1
  clear hb1
  go_wp2
  refine bodyPost_ret (v := .tuple #[.agg #[.int .i64 0, .int .i64 0], .int .i64 er]) (by simp [results, Try.results30, go_sem, R0, R1]) rfl ⟨rfl, ?_⟩
  exact (hlw1.put (Nat.le_refl _) _).put (Nat.le_refl _) _

set_option maxHeartbeats 4000000 in
set_option maxRecDepth 100000 in
theorem splice_Best_range (Q : Option Addr) (qc : Nat) (len lo hi : Int) (polys : List (List Pt)) (w : World) (hps : Polys w Q polys) (hpl : ∀ p ∈ polys, p.length ≤ 1099511627776) (he0 : (extentsR len polys).2 = 0) (hr : lo < 0 ∨ hi < lo ∨ len < hi) :
    Calls Try.prog 30 #[.int .i64 len, .slice Q polys.length qc, .int .i64 lo, .int .i64 hi] w (Ret (.tuple #[.agg #[.int .i64 0, .int .i64 0], .int .i64 3]) w) := by
  have HE := Lib.hid (fun W (hW : Later w W) => splice_extents Q qc len polys W (hps.later hW) hpl)
  generalize extentsR len polys = E at *
  obtain ⟨zs, er⟩ := E
  simp only [] at *
  subst he0
  go_enter Try.func30, Try.ntmps30
  go_upto_region 4 with (first | (go_at_call 37; (with_reducible refine (HE.out _ (by repeat' (with_reducible first | exact Later.refl _ | assumption | refine Later.drew ?_ | refine Later.drewN ?_ _ | refine Later.alloc ?_ _ | refine Later.put ?_ (by omega) _ | refine Later.trans ?_ (by assumption)))).mono ?_); rintro e w1 (⟨_, A1, c1, rfl, q1, q2, q3, hb1⟩ | ⟨q0, _⟩); rotate_left; exact absurd rfl q0; have R0 : w1.cell? ⟨w.heap.size, 0, none⟩ = some (.int .i64 0) := hb1.cell (by simp [go_sem]); have R1 : w1.cell? ⟨w.heap.size, 1, none⟩ = some (.int .i64 0) := hb1.cell (by simp [go_sem])))
  have D8 : Blk w1 w.heap.size 94 #[.int .i64 0, .int .i64 0] := Blk.later (by repeat' (with_reducible first | assumption | (refine Blk.newAt ?_; simp; done) | refine Blk.alloc ?_ _ | refine Blk.drew ?_ | refine Blk.drewN ?_ _ | refine Blk.later ?_ (by assumption))) hb1
  have hlw1 : Later w w1 := (by repeat' (with_reducible first | exact Later.refl _ | assumption | refine Later.drew ?_ | refine Later.drewN ?_ _ | refine Later.alloc ?_ _ | refine Later.put ?_ (by omega) _ | refine Later.trans ?_ (by assumption)))
  have xf0 := D8.frozen 0
  have xf1 := D8.frozen 1
  clear hb1
  go_cut [42] (fun v wx => v = .bool true ∧ wx = w1)
  case first =>
    by_cases h1 : lo < 0
    · have d1 : decide (lo < 0) = true := by simpa using h1
      go_wp2_with fail
      go_meet
      exact ⟨rfl, rfl⟩
    · have d1 : decide (lo < 0) = false := by simpa using h1
      by_cases h2 : hi < lo
      · have d2 : decide (hi < lo) = true := by simpa using h2
        go_wp2_with fail
        go_meet
        exact ⟨rfl, rfl⟩
      · have d2 : decide (hi < lo) = false := by simpa using h2
        have h3 : len < hi := by omega
        have d3 : decide (len < hi) = true := by simpa using h3
        go_wp2_with fail
        go_meet
        exact ⟨rfl, rfl⟩
  case rest =>
  obtain ⟨rfl, rfl⟩ := hcut
  go_wp2
  refine bodyPost_ret (v := .tuple #[.agg #[.int .i64 0, .int .i64 0], .int .i64 3]) (by simp [results, Try.results30, go_sem, R0, R1]) rfl ⟨rfl, ?_⟩
  exact (hlw1.put (Nat.le_refl _) _).put (Nat.le_refl _) _

theorem splice_Best (Q : Option Addr) (qc : Nat) (len lo hi : Int) (polys : List (List Pt)) (w : World) (hps : Polys w Q polys) (hpl : ∀ p ∈ polys, p.length ≤ 1099511627776) :
    Calls Try.prog 30 #[.int .i64 len, .slice Q polys.length qc, .int .i64 lo, .int .i64 hi] w (Ret (.tuple #[.agg #[.int .i64 (BestR len polys lo hi).1.x, .int .i64 (BestR len polys lo hi).1.y], .int .i64 (BestR len polys lo hi).2]) w) := by
  rcases Classical.em ((extentsR len polys).2 = 0) with he | he
  · by_cases hr : lo < 0 ∨ hi < lo ∨ len < hi
    · rw [bestR_range he hr]
      exact splice_Best_range Q qc len lo hi polys w hps hpl he hr
    · exact splice_Best_in Q qc len lo hi polys w hps hpl he hr
  · rw [bestR_bad he]
    exact splice_Best_err Q qc len lo hi polys w hps hpl he

end Go.Proofs.Ytdhakoecjmaebaa
