/-
  The walk of convex.Sum.
-/
import Derived.Test.YtdhakoecjmaebaaGreatZHullA
import Derived.Test.YtdhakoecjmaebaaGreatZRefT
namespace Go.Proofs.YtdhakoecjmaebaaGreat
open Go.RowKit
set_option linter.unusedSimpArgs false
set_option linter.unusedVariables false

set_option maxHeartbeats 4000000 in
set_option maxRecDepth 100000 in
theorem convex_Sum_ok (A B : Option Addr) (ca cb : Nat) (a b : List Pt) (w : World) (hA : A = none → a = []) (hB : B = none → b = []) (pa : Pts w A a) (pb : Pts w B b) (na : ∀ p ∈ a, NearP 1048576 p) (nb : ∀ p ∈ b, NearP 1048576 p) (la : a.length ≤ 16) (lb : b.length ≤ 16) (h0 : (msumR a b).2 = 0) :
    Calls Tryz.prog 65 #[.slice A a.length ca, .slice B b.length cb] w (PtsPost (msumR a b).1 w) := by
  obtain ⟨z1, z2, z3, z4, z5⟩ := msum_zero h0
  rw [z5]
  have nF : ∀ p ∈ (chullR a).1, NearP 1048576 p := fun p h => na p (chull_sub h)
  have nS : ∀ p ∈ (chullR b).1, NearP 1048576 p := fun p h => nb p (chull_sub h)
  have lF : (chullR a).1.length ≤ 32 := by
    have := hull_len a
    rw [(chull_zero z1).2.2.2]
    omega
  have lS : (chullR b).1.length ≤ 32 := by
    have := hull_len b
    rw [(chull_zero z2).2.2.2]
    omega
  have HF := Lib.hid (convex_Hull_ok A ca a w hA pa z1)
  have HS := Lib.hid (fun W (hW : Later w W) => convex_Hull_ok B cb b W hB (pb.later hW) z2)
  clear z5 h0 na nb la lb pa pb hA hB z1 z2
  generalize (chullR a).1 = F at *
  generalize (chullR b).1 = S at *
  have HN := Lib.hid nF
  have HM := Lib.hid nS
  have Hz3 := Lib.hid z3
  have Hz4 := Lib.hid z4
  have Hsl := Lib.hid (sums_len F S)
  have hsm : ∀ p ∈ sumsP F S, SmP p := by
    intro p hp
    obtain ⟨u, hu, v, hv, rfl⟩ := sums_mem.1 hp
    have h1 := nF u hu
    have h2 := nS v hv
    unfold NearP at h1 h2
    unfold SmP Sm plusP
    simp only []
    omega
  have Hsm := Lib.hid hsm
  clear nF nS z3 z4 hsm
  go_enter Tryz.func65, Tryz.ntmps65
  go_upto_region 4 with (go_at_call 109; (with_reducible refine HF.out.mono ?_); rintro e w1 ⟨v1, rfl, ho1, hl1⟩; obtain ⟨A1, c1, rfl, _, _, p1⟩ := ho1.pts)
  go_upto_region 8 with (go_at_call 109; (with_reducible refine (HS.out _ hl1).mono ?_); rintro e w2 ⟨v2, rfl, ho2, hl2⟩; obtain ⟨A2, c2, rfl, _, _, p2⟩ := ho2.pts)
  have P1 := p1.later hl2
  have hl12 := hl1.trans hl2
  clear ho1 ho2 p1 hl1 hl2
  go_upto_region 9 with fail
  go_loopw [9, 34] (fun v iv wr => ∃ k : Nat, k ≤ F.length ∧ iv = .int .i64 k ∧ OwnR wr w2.heap.size 29 2 pt2 v (sumsP (F.take k) S) ∧ Later w2 wr) (fun _ iv _ => F.length - (intOf iv).toNat)
  case atStart => exact ⟨0, by omega, rfl, World.ownsRow_nil _ _ _ _, Later.refl _⟩
  case round =>
    obtain ⟨k, hk, rfl, ho, hb⟩ := hrel
    have Ho := Lib.hid ho
    clear ho
    by_cases hlt : k < F.length
    · obtain ⟨b1, o1, rfl, e1, e2⟩ := (P1.later hb).at_ hlt
      have zb := World.block_lt_of_cell? _ _ e1
      have Hnx := Lib.hid (sums_next (b := S) hlt)
      have hpn := HN.out _ (List.getElem_mem hlt)
      have hsl : (sumsP (F.take k) S).length ≤ 1024 := by
        rw [sums_len, List.length_take]
        have : min k F.length * S.length ≤ 32 * 32 := Nat.mul_le_mul (by omega) lS
        omega
      generalize F[k] = p at *
      generalize sumsP (F.take k) S = acc at *
      obtain ⟨px, py⟩ := p
      unfold NearP at hpn
      simp only [] at e1 e2 hpn
      go_upto_region 11 with fail
      refine name_world (fun Wp hWp => ?_)
      have hbp : Later wr Wp := by rw [hWp]; exact (by repeat' (with_reducible first | exact Later.refl _ | assumption | refine Later.drew ?_ | refine Later.drewN ?_ _ | refine Later.alloc ?_ _ | refine Later.put ?_ (by omega) _ | refine Later.trans ?_ (by assumption)))
      have Dp : Blk Wp wr.heap.size 29 #[.int .i64 px, .int .i64 py] := by rw [hWp]; exact (by repeat' (with_reducible first | assumption | (refine Blk.newAt ?_; simp; done) | refine Blk.alloc ?_ _ | refine Blk.drew ?_ | refine Blk.drewN ?_ _ | refine Blk.later ?_ (by assumption)))
      have Hop := Lib.hid (Ho.out.later hbp)
      clear hWp e1 e2 zb
      have Hhb := Lib.hid (hb.trans hbp)
      have Hne := Lib.hid (fun (e : _ = some wr.heap.size) => (by have := (World.ownsRow.lt Ho.out _ e).2; omega : False))
      generalize wr.heap.size = gp_ at *
      go_upto_region 12 with fail
      go_loopw [9, 40] (fun v jv wq => ∃ j : Nat, j ≤ S.length ∧ jv = .int .i64 j ∧ OwnR wq w2.heap.size 29 2 pt2 v (acc ++ (S.take j).map (plusP ⟨px, py⟩)) ∧ Blk wq gp_ 29 #[.int .i64 px, .int .i64 py] ∧ Later w2 wq ∧ Hid (v.ownBlock ≠ some gp_)) (fun _ jv _ => S.length - (intOf jv).toNat)
      case atStart => exact ⟨0, by omega, rfl, by simpa using Hop.out, Dp, Hhb.out, Lib.hid Hne.out⟩
      case round =>
        obtain ⟨j, hj, rfl, ho, Dq, hbq, Hnv⟩ := hrel
        have Ho2 := Lib.hid ho
        clear ho
        have k0 : wr.cell? ⟨gp_, 0, none⟩ = some (.int .i64 px) := Dq.cell 0
        have k1 : wr.cell? ⟨gp_, 1, none⟩ = some (.int .i64 py) := Dq.cell 1
        have zq := Dq.lt
        by_cases hjl : j < S.length
        · obtain ⟨b2, o2, rfl, x1, x2⟩ := (p2.later hbq).at_ hjl
          have zb := World.block_lt_of_cell? _ _ x1
          have hqn := HM.out _ (List.getElem_mem hjl)
          have hal : (acc ++ (S.take j).map (plusP ⟨px, py⟩)).length ≤ 1056 := by simp; omega
          have Hcu := Lib.hid (show acc ++ (S.take (j + 1)).map (plusP ⟨px, py⟩) = (acc ++ (S.take j).map (plusP ⟨px, py⟩)) ++ [plusP ⟨px, py⟩ S[j]] by rw [map_next (f := plusP ⟨px, py⟩) hjl, List.append_assoc])
          generalize S[j] = q at *
          obtain ⟨qx, qy⟩ := q
          unfold NearP at hqn
          simp only [] at x1 x2 hqn
          generalize acc ++ (S.take j).map (plusP ⟨px, py⟩) = cur at *
          have Hal := Lib.hid hal
          clear hal
          go_upto_region 14 with fail
          refine name_world (fun Wq hWq => ?_)
          have hbq' : Later wr Wq := by rw [hWq]; exact (by repeat' (with_reducible first | exact Later.refl _ | assumption | refine Later.drew ?_ | refine Later.drewN ?_ _ | refine Later.alloc ?_ _ | refine Later.put ?_ (by omega) _ | refine Later.trans ?_ (by assumption)))
          have Dq' : Blk Wq wr.heap.size 29 #[.int .i64 qx, .int .i64 qy] := by rw [hWq]; exact (by repeat' (with_reducible first | assumption | (refine Blk.newAt ?_; simp; done) | refine Blk.alloc ?_ _ | refine Blk.drew ?_ | refine Blk.drewN ?_ _ | refine Blk.later ?_ (by assumption)))
          clear hWq x1 x2 zb k0 k1 zq
          have HoQ := Lib.hid (Ho2.out.later hbq')
          have hlq := hbq.trans hbq'
          have Dp' := Dq.later hbq'
          have k0 : Wq.cell? ⟨gp_, 0, none⟩ = some (.int .i64 px) := Dp'.cell 0
          have k1 : Wq.cell? ⟨gp_, 1, none⟩ = some (.int .i64 py) := Dp'.cell 1
          have m0 : Wq.cell? ⟨wr.heap.size, 0, none⟩ = some (.int .i64 qx) := Dq'.cell 0
          have m1 : Wq.cell? ⟨wr.heap.size, 1, none⟩ = some (.int .i64 qy) := Dq'.cell 1
          have zq := Dp'.lt
          have zq' := Dq'.lt
          generalize wr.heap.size = gq_ at *
          have hpq : plusP ⟨px, py⟩ ⟨qx, qy⟩ = ⟨px + qx, py + qy⟩ := rfl
          rw [hpq] at Hcu
          go_upto_region 15 with (at_builtin; refine wpList_append_recf slt_spot pt2_len pt2_one rfl (.tmp 44) (.tmp 56) rfl (base := w2.heap.size) (l := cur) rfl (OwnR.alloc HoQ.out _) (ad := ⟨Wq.heap.size, 0, none⟩) (c := 1) [⟨px + qx, py + qy⟩] rfl (SrcAt.blk (cs := #[.int .i64 (px + qx), .int .i64 (py + qy)]) (by repeat' (with_reducible first | assumption | (refine Blk.newAt ?_; simp; done) | refine Blk.alloc ?_ _ | refine Blk.drew ?_ | refine Blk.drewN ?_ _ | refine Blk.later ?_ (by assumption)))) (by have := Hal.out; simp; omega) (by have := hlq.size; simp; omega) ?_; intro A6 c6 w6 ho6 hg6 hf6)
          have hl6 : Later w2 w6 := Later.grown (hlq.alloc _) hg6 (fun g hg => (World.ownsRow.lt HoQ.out g hg).1)
          have Ho6 := Lib.hid ho6
          have D6 := Lib.hid ((Dp'.alloc _).grown hg6 (fun e => Hnv.out e.symm))
          have Hn6 := Lib.hid (fun e => (by rcases hf6 with h | h
                                            · exact Hnv.out (h.symm.trans e)
                                            · rw [h] at e; injection e with e; simp at e; omega : False))
          clear hg6 hf6 ho6 k0 k1 m0 m1
          go_wp2
          go_roundw
          case rel => exact ⟨j + 1, by omega, by go_num, by rw [Hcu.out]; exact own_len Ho6.out (by simp), D6.out, hl6, Lib.hid (by
            have h := Hn6.out
            simpa using h)⟩
          case measure => simp [intOf]; omega
        · have hje : S.take j = S := List.take_of_length_le (by omega)
          rw [hje, ← Hnx.out] at Ho2
          go_wp2
          go_roundw
          case rel => exact ⟨k + 1, by omega, by go_num, Ho2.out, hbq⟩
          case measure => simp [intOf]; omega
    · have hke : F.take k = F := List.take_of_length_le (by omega)
      rw [hke] at Ho
      have hSl : (sumsP F S).length ≤ 1024 := by
        rw [sums_len]
        have : F.length * S.length ≤ 32 * 32 := Nat.mul_le_mul lF lS
        omega
      obtain ⟨A3, c3, rfl, _, _, p3⟩ := Ho.out.pts
      have HH := Lib.hid (convex_hull A3 c3 (sumsP F S) wr (fun h => List.eq_nil_of_length_eq_zero (own_none Ho.out h)) p3 (by omega) Hsm.out)
      have hq := hSl
      generalize sumsP F S = q at *
      have h3 := Hz3.out
      have h4 := Hz4.out
      unfold HullPost at HH
      generalize (hullP q).2 = bq at *
      generalize (hullP q).1 = r at *
      have hl12b := hl12.trans hb
      go_upto_region 18 with (go_at_call 110; (with_reducible refine HH.out.mono ?_); rintro e w5 ⟨v5, rfl, ho5, hl5⟩; obtain ⟨A5, c5, rfl, _, _, p5⟩ := ho5.pts)
      have HC := contains_out4 A5 c5 r w5 (by omega) p5
      rw [h3] at HC
      have HC := Lib.hid HC
      have Ho5 := Lib.hid (own_low ho5 hl12b.size)
      clear h3 p5 ho5
      have d0 : decide ((r.length : Int) > 160) = false := by simp; omega
      go_wp2_with (go_at_call 56; (with_reducible refine HC.out.mono ?_); rintro e w6 ⟨rfl, hb6⟩)
      go_ret2
      exact ⟨_, rfl, Ho5.out.later hb6, (hl12b.trans hl5).trans hb6⟩

end Go.Proofs.YtdhakoecjmaebaaGreat
