/-
  account.checkPolys and account.cloth.
-/
import Derived.Test.YtpiniflhaokkaaaZAccQ
import Derived.Test.YtpiniflhaokkaaaZSprD
import Derived.Test.YtpiniflhaokkaaaZSplW
import Derived.BigQuiet
namespace Go.Proofs.Ytpiniflhaokkaaa
open Go.RowKit
set_option linter.unusedSimpArgs false
set_option linter.unusedVariables false

theorem ckY_bad {W : Int} {p : List Pt} {l : List (List Pt)} (h : checkI p ≠ 0) : ckYGo W (p :: l) = checkI p := by rw [ckYGo, if_pos h]
theorem ckY_far {W : Int} {p : List Pt} {l : List (List Pt)} (h : checkI p = 0) (h1 : (loOf p).y < 0 ∨ W < (hiOf p).y) : ckYGo W (p :: l) = 13 := by rw [ckYGo, if_neg (by simpa using h), if_pos h1]
theorem ckY_good {W : Int} {p : List Pt} {l : List (List Pt)} (h : checkI p = 0) (h1 : ¬ ((loOf p).y < 0 ∨ W < (hiOf p).y)) : ckYGo W (p :: l) = ckYGo W l := by rw [ckYGo, if_neg (by simpa using h), if_neg h1]
theorem ckO_err {p q : List Pt} {l : List (List Pt)} (h : (overR p q).2 ≠ 0) : ckORow p (q :: l) = (overR p q).2 := by rw [ckORow, if_pos h]
theorem ckO_hit {p q : List Pt} {l : List (List Pt)} (h : (overR p q).2 = 0) (h1 : (overR p q).1 = true) : ckORow p (q :: l) = 14 := by rw [ckORow, if_neg (by simpa using h), if_pos h1]
theorem ckO_miss {p q : List Pt} {l : List (List Pt)} (h : (overR p q).2 = 0) (h1 : (overR p q).1 = false) : ckORow p (q :: l) = ckORow p l := by rw [ckORow, if_neg (by simpa using h), if_neg (by simp [h1])]
theorem ckOGo_at {ps : List (List Pt)} {i n : Nat} (hi : i < ps.length) (hn : ps.length = i + n + 1) : ckOGo ps (n + 1) i = if ckORow ps[i] (ps.take i) ≠ 0 then ckORow ps[i] (ps.take i) else ckOGo ps n (i + 1) := by
  have e : ps.getD i [] = ps[i] := by simp [hi]
  rw [ckOGo, e]

set_option maxHeartbeats 8000000 in
set_option maxRecDepth 100000 in
theorem account_checkPolys (Q : Option Addr) (qc : Nat) (wd : Int) (polys : List (List Pt)) (w : World) (hps : Polys w Q polys) (hpl : ∀ p ∈ polys, p.length ≤ 1099511627776) (hn : polys.length ≤ 65536) (hqc : polys.length ≤ qc) :
    Calls Try.prog 39 #[.slice Q polys.length qc, .int .i64 wd] w (Ret (.int .i64 (ckPolysR polys wd)) w) := by
  have H1 := Lib.hid (show ckYGo wd polys ≠ 0 → ckPolysR polys wd = ckYGo wd polys from fun h => by unfold ckPolysR; rw [if_pos h])
  have H2 := Lib.hid (show ckYGo wd polys = 0 → ckPolysR polys wd = ckOGo polys polys.length 0 from fun h => by unfold ckPolysR; rw [if_neg (by simpa using h)])
  generalize ckPolysR polys wd = R at *
  go_enter Try.func39, Try.ntmps39
  go_upto_region 2 with fail
  go_loopw [17] (fun iv wr => ∃ k : Nat, k ≤ polys.length ∧ iv = .int .i64 k ∧ ckYGo wd polys = ckYGo wd (polys.drop k) ∧ Later w wr) (fun iv _ => polys.length - (intOf iv).toNat)
  case atStart => exact ⟨0, by omega, rfl, rfl, Later.refl _⟩
  case round =>
    obtain ⟨k, hk, rfl, he, hb⟩ := hrel
    have He := Lib.hid he
    clear he
    by_cases hlt : k < polys.length
    · obtain ⟨bq, oq, A', c', rfl, k1, k2, k3⟩ := (hps.later hb).at_ hlt
      have Hd := Lib.hid (drop_cons' polys k hlt)
      have hpn := hpl _ (List.getElem_mem hlt)
      generalize polys[k] = ps at *
      have hbz : bq < wr.heap.size := World.block_lt_of_cell? _ _ k1
      have hk0 : (0 : Int) ≤ (k : Int) := by omega
      have hk1 : (k : Int) < (polys.length : Int) := by omega
      rcases Classical.em (checkI ps = 0) with hc | hc
      · have HB := Lib.hid (fun W (hW : Later wr W) => polygon_Box_ok A' c' ps W hpn k2 (k3.later hW) hc)
        have hsm := lo_sm (small_of_check hc)
        have Hfar := Lib.hid (fun l h => ckY_far (W := wd) (l := l) hc h)
        have Hgood := Lib.hid (fun l h => ckY_good (W := wd) (l := l) hc h)
        clear hc
        generalize loOf ps = lo at *
        generalize hiOf ps = hi at *
        obtain ⟨lx, ly⟩ := lo
        obtain ⟨hx, hy⟩ := hi
        obtain ⟨⟨s1, s2⟩, ⟨s3, s4⟩⟩ := hsm
        unfold Sm at s1 s2 s3 s4
        simp only [] at s1 s2 s3 s4 HB Hfar Hgood
        have v1 : IntKind.i64.wrap (ly + (hy - ly)) = hy := by rw [show ly + (hy - ly) = hy by omega]; exact IntWalk.i64_in _ (by omega)
        by_cases hy0 : ly < 0
        · have dx0 : decide (ly < 0) = true := by simpa using hy0
          have HRv := Lib.hid (show R = 13 by
            have e : ckYGo wd polys = 13 := by rw [He.out, Hd.out, Hfar.out _ (.inl hy0)]
            rw [H1.out (by rw [e]; decide), e])
          go_wp2_with (first | (go_at_call 60; (with_reducible refine (HB.out _ (Later.refl _)).mono ?_); rintro e w5 ⟨rfl, hb5⟩))
          go_ret
          exact ⟨ret_int HRv.out.symm, hb.trans (by repeat' (with_reducible first | exact Later.refl _ | assumption | refine Later.drew ?_ | refine Later.drewN ?_ _ | refine Later.alloc ?_ _ | refine Later.put ?_ (by omega) _ | refine Later.trans ?_ (by assumption)))⟩
        · have dx0 : decide (ly < 0) = false := by simpa using hy0
          by_cases hy1 : wd < hy
          · have dx1 : decide (wd < hy) = true := by simpa using hy1
            have HRv := Lib.hid (show R = 13 by
              have e : ckYGo wd polys = 13 := by rw [He.out, Hd.out, Hfar.out _ (.inr hy1)]
              rw [H1.out (by rw [e]; decide), e])
            go_wp2_with (first | (go_at_call 60; (with_reducible refine (HB.out _ (Later.refl _)).mono ?_); rintro e w5 ⟨rfl, hb5⟩))
            go_ret
            exact ⟨ret_int HRv.out.symm, hb.trans (by repeat' (with_reducible first | exact Later.refl _ | assumption | refine Later.drew ?_ | refine Later.drewN ?_ _ | refine Later.alloc ?_ _ | refine Later.put ?_ (by omega) _ | refine Later.trans ?_ (by assumption)))⟩
          · have dx1 : decide (wd < hy) = false := by simpa using hy1
            go_wp2_with (first | (go_at_call 60; (with_reducible refine (HB.out _ (Later.refl _)).mono ?_); rintro e w5 ⟨rfl, hb5⟩))
            go_roundw
            case rel => exact ⟨k + 1, by omega, by go_num, by rw [He.out, Hd.out, Hgood.out _ (by omega)], hb.trans (by repeat' (with_reducible first | exact Later.refl _ | assumption | refine Later.drew ?_ | refine Later.drewN ?_ _ | refine Later.alloc ?_ _ | refine Later.put ?_ (by omega) _ | refine Later.trans ?_ (by assumption)))⟩
            case measure => simp [intOf]; omega
      · have HB := Lib.hid (fun W (hW : Later wr W) => polygon_Box_err A' c' ps W hpn k2 (k3.later hW) hc)
        have hne : (checkI ps != 0) = true := by simpa using hc
        have HRv := Lib.hid (show R = checkI ps by
          have e : ckYGo wd polys = checkI ps := by rw [He.out, Hd.out, ckY_bad hc]
          rw [H1.out (by rw [e]; exact hc), e])
        clear hc
        generalize checkI ps = er at *
        go_wp2_with (first | (go_at_call 60; (with_reducible refine (HB.out _ (Later.refl _)).mono ?_); rintro e w5 ⟨rfl, hb5⟩))
        go_ret
        exact ⟨ret_int HRv.out.symm, hb.trans (by repeat' (with_reducible first | exact Later.refl _ | assumption | refine Later.drew ?_ | refine Later.drewN ?_ _ | refine Later.alloc ?_ _ | refine Later.put ?_ (by omega) _ | refine Later.trans ?_ (by assumption)))⟩
    · have hy0 : ckYGo wd polys = 0 := by rw [He.out, List.drop_eq_nil_of_le (by omega)]; rfl
      have H3 := Lib.hid (H2.out hy0)
      clear hy0 H1 H2 He
      go_upto_region 11 with fail
      go_loopw [44] (fun iv wq => ∃ k : Nat, k ≤ polys.length ∧ iv = .int .i64 k ∧ R = ckOGo polys (polys.length - k) k ∧ Later w wq) (fun iv _ => polys.length - (intOf iv).toNat)
      case atStart => exact ⟨0, by omega, rfl, by rw [H3.out]; rfl, hb⟩
      case round =>
        clear hb hlt hk
        obtain ⟨k, hk, rfl, he, hb⟩ := hrel
        have He := Lib.hid he
        clear he H3
        by_cases hlt : k < polys.length
        · obtain ⟨bq, oq, A', c', rfl, k1, k2, k3⟩ := (hps.later hb).at_ hlt
          have hpn := hpl _ (List.getElem_mem hlt)
          have hbz : bq < wr.heap.size := World.block_lt_of_cell? _ _ k1
          have hk0 : (0 : Int) ≤ (k : Int) := by omega
          have hk1 : (k : Int) < (polys.length : Int) := by omega
          have hkc : (k : Int) ≤ (qc : Int) := by omega
          have HE := Lib.hid (show R = if ckORow polys[k] (polys.take k) ≠ 0 then ckORow polys[k] (polys.take k) else ckOGo polys (polys.length - (k + 1)) (k + 1) by
            rw [He.out, show polys.length - k = (polys.length - (k + 1)) + 1 by omega]
            exact ckOGo_at hlt (by omega))
          generalize polys[k] = ps at *
          go_upto_region 14 with fail
          refine name_world (fun W4 hW4 => ?_)
          have hl4 : Later wr W4 := by rw [hW4]; exact (by repeat' (with_reducible first | exact Later.refl _ | assumption | refine Later.drew ?_ | refine Later.drewN ?_ _ | refine Later.alloc ?_ _ | refine Later.put ?_ (by omega) _ | refine Later.trans ?_ (by assumption)))
          clear hW4
          go_loopw [53] (fun jv wq => ∃ j : Nat, j ≤ k ∧ jv = .int .i64 j ∧ ckORow ps (polys.take k) = ckORow ps ((polys.take k).drop j) ∧ Later W4 wq) (fun jv _ => k - (intOf jv).toNat)
          case atStart => exact ⟨0, by omega, rfl, rfl, Later.refl _⟩
          case round =>
            obtain ⟨j, hj, rfl, hej, hbj⟩ := hrel
            have Hej := Lib.hid hej
            clear hej
            by_cases hjk : j < k
            · obtain ⟨bq', oq', A2, c2, eQ, m1, m2, m3⟩ := (hps.later (hb.trans (hl4.trans hbj))).at_ (show j < polys.length by omega)
              cases eQ
              have hqn := hpl _ (List.getElem_mem (show j < polys.length by omega))
              have Hd := Lib.hid (show (polys.take k).drop j = polys[j] :: (polys.take k).drop (j + 1) by
                have h := drop_cons' (polys.take k) j (by rw [List.length_take]; omega)
                rw [h]; congr 1; exact List.getElem_take)
              generalize polys[j] = qs at *
              have hbz2 : bq < wr.heap.size := World.block_lt_of_cell? _ _ m1
              have hj0 : (0 : Int) ≤ (j : Int) := by omega
              have hj1 : (j : Int) < (k : Int) := by omega
              have k3' := (k3.later hl4).later hbj
              have HO := Lib.hid (fun W (hW : Later wr W) => overlap_Overlap (A := A') (B := A2) (ca := c') (cb := c2) (a := ps) (b := qs) (w := W) hpn k2 (k3'.later hW) hqn m2 (m3.later hW))
              have He1 := Lib.hid (fun l h => ckO_err (p := ps) (q := qs) (l := l) h)
              have He2 := Lib.hid (fun l h h1 => ckO_hit (p := ps) (q := qs) (l := l) h h1)
              have He3 := Lib.hid (fun l h h1 => ckO_miss (p := ps) (q := qs) (l := l) h h1)
              generalize overR ps qs = ov at *
              obtain ⟨ob, oe⟩ := ov
              simp only [] at HO He1 He2 He3
              rcases Classical.em (oe = 0) with h0 | h0
              · subst h0
                rcases ob with _ | _
                · go_wp2_with (first | (go_at_call 61; (with_reducible refine (HO.out _ (by repeat' (with_reducible first | exact Later.refl _ | assumption | refine Later.drew ?_ | refine Later.drewN ?_ _ | refine Later.alloc ?_ _ | refine Later.put ?_ (by omega) _ | refine Later.trans ?_ (by assumption)))).mono ?_); rintro e w6 ⟨rfl, hb6⟩))
                  go_roundw
                  case rel => exact ⟨j + 1, by omega, by go_num, by rw [Hej.out, Hd.out, He3.out _ (by first | trivial | rfl) (by first | trivial | rfl)], hbj.trans (by repeat' (with_reducible first | exact Later.refl _ | assumption | refine Later.drew ?_ | refine Later.drewN ?_ _ | refine Later.alloc ?_ _ | refine Later.put ?_ (by omega) _ | refine Later.trans ?_ (by assumption)))⟩
                  case measure => simp [intOf]; omega
                · have HRv := Lib.hid (show R = 14 by
                    have e : ckORow ps (polys.take k) = 14 := by rw [Hej.out, Hd.out, He2.out _ (by first | trivial | rfl) (by first | trivial | rfl)]
                    rw [HE.out, e, if_pos (by decide)])
                  go_wp2_with (first | (go_at_call 61; (with_reducible refine (HO.out _ (by repeat' (with_reducible first | exact Later.refl _ | assumption | refine Later.drew ?_ | refine Later.drewN ?_ _ | refine Later.alloc ?_ _ | refine Later.put ?_ (by omega) _ | refine Later.trans ?_ (by assumption)))).mono ?_); rintro e w6 ⟨rfl, hb6⟩))
                  go_ret
                  exact ⟨ret_int HRv.out.symm, hb.trans (hl4.trans (hbj.trans (by repeat' (with_reducible first | exact Later.refl _ | assumption | refine Later.drew ?_ | refine Later.drewN ?_ _ | refine Later.alloc ?_ _ | refine Later.put ?_ (by omega) _ | refine Later.trans ?_ (by assumption)))))⟩
              · have dn : (oe != 0) = true := by simpa using h0
                have HRv := Lib.hid (show R = oe by
                  have e : ckORow ps (polys.take k) = oe := by rw [Hej.out, Hd.out, He1.out _ h0]
                  rw [HE.out, e, if_pos h0])
                go_wp2_with (first | (go_at_call 61; (with_reducible refine (HO.out _ (by repeat' (with_reducible first | exact Later.refl _ | assumption | refine Later.drew ?_ | refine Later.drewN ?_ _ | refine Later.alloc ?_ _ | refine Later.put ?_ (by omega) _ | refine Later.trans ?_ (by assumption)))).mono ?_); rintro e w6 ⟨rfl, hb6⟩))
                go_ret
                exact ⟨ret_int HRv.out.symm, hb.trans (hl4.trans (hbj.trans (by repeat' (with_reducible first | exact Later.refl _ | assumption | refine Later.drew ?_ | refine Later.drewN ?_ _ | refine Later.alloc ?_ _ | refine Later.put ?_ (by omega) _ | refine Later.trans ?_ (by assumption)))))⟩
            · have e0 : ckORow ps (polys.take k) = 0 := by rw [Hej.out, List.drop_eq_nil_of_le (by rw [List.length_take]; omega)]; rfl
              have HE2 := Lib.hid (show R = ckOGo polys (polys.length - (k + 1)) (k + 1) by rw [HE.out, e0, if_neg (by simp)])
              clear e0
              go_wp2
              go_roundw
              case rel => exact ⟨k + 1, by omega, by go_num, HE2.out, hb.trans (hl4.trans (hbj.trans (by repeat' (with_reducible first | exact Later.refl _ | assumption | refine Later.drew ?_ | refine Later.drewN ?_ _ | refine Later.alloc ?_ _ | refine Later.put ?_ (by omega) _ | refine Later.trans ?_ (by assumption)))))⟩
              case measure => simp [intOf]; omega
        · have HRv := Lib.hid (show R = 0 by rw [He.out, show polys.length - k = 0 by omega]; rfl)
          go_wp2
          go_ret
          exact ⟨ret_int HRv.out.symm, hb.trans (by repeat' (with_reducible first | exact Later.refl _ | assumption | refine Later.drew ?_ | refine Later.drewN ?_ _ | refine Later.alloc ?_ _ | refine Later.put ?_ (by omega) _ | refine Later.trans ?_ (by assumption)))⟩

end Go.Proofs.Ytpiniflhaokkaaa
/-
  account.cloth: what a ply takes from the rolls and what of it lies double.
-/
namespace Go.Proofs.Ytpiniflhaokkaaa
open Go.RowKit
set_option linter.unusedSimpArgs false
set_option linter.unusedVariables false

/-- Parts of cloth of moderate rolls. -/
def AccB (n : Nat) (q : Qd) : Prop := 0 ≤ q.a ∧ q.a < (n : Int) ∧ 0 ≤ q.b ∧ q.b < q.c ∧ q.c ≤ 1048576 ∧ 0 ≤ q.d ∧ q.d ≤ 1048576
theorem two_bd {a b M N : Int} (ha : -M ≤ a ∧ a ≤ M) (hb : 0 ≤ b ∧ b ≤ N) (hM : 0 ≤ M) : -(M * N) ≤ a * b ∧ a * b ≤ M * N := by
  have h1 := Int.mul_le_mul_of_nonneg_right ha.2 hb.1
  have h2 := Int.mul_le_mul_of_nonneg_left hb.2 hM
  have h3 := Int.mul_le_mul_of_nonneg_right ha.1 hb.1
  have h4 : -M * b = -(M * b) := Int.neg_mul ..
  omega

set_option maxHeartbeats 8000000 in
set_option maxRecDepth 100000 in
theorem account_cloth (pa C : Option Addr) (pc cc : Nat) (lot : Int) (parts : List Qd) (rs : List Rl) (w : World) (hp : Qds w pa parts) (hrs : Rolls w C rs) (hn : parts.length ≤ 1000)
    (hB : ∀ q ∈ parts, AccB rs.length q) (hw : ∀ r ∈ rs, 0 ≤ r.wd ∧ r.wd ≤ 1048576) :
    Calls Try.prog 41 #[.agg #[.int .i64 lot, .slice pa parts.length pc], .slice C rs.length cc] w (Ret (.tuple #[.int .i64 (tknQ rs parts), .int .i64 (dblQ rs parts)]) w) := by
  have HB := Lib.hid hB
  have HW := Lib.hid hw
  clear hB hw
  go_enter Try.func41, Try.ntmps41
  go_upto_region 2 with fail
  refine name_world (fun W2 hW2 => ?_)
  have hl2 : Later w W2 := by rw [hW2]; exact (by repeat' (with_reducible first | exact Later.refl _ | assumption | refine Later.drew ?_ | refine Later.drewN ?_ _ | refine Later.alloc ?_ _ | refine Later.put ?_ (by omega) _ | refine Later.trans ?_ (by assumption)))
  have D2 : Blk W2 w.heap.size 51 #[.int .i64 lot, .slice pa parts.length pc] := by rw [hW2]; exact (by repeat' (with_reducible first | assumption | (refine Blk.newAt ?_; simp; done) | refine Blk.alloc ?_ _ | refine Blk.drew ?_ | refine Blk.drewN ?_ _ | refine Blk.later ?_ (by assumption)))
  clear hW2
  go_loopw [4, 5, 12] (fun tv dv iv wr => ∃ (j : Nat) (t d : Int), j ≤ parts.length ∧ iv = .int .i64 j ∧ tv = .int .i64 t ∧ dv = .int .i64 d ∧ t = tknQ rs (parts.take j) ∧ d = dblQ rs (parts.take j) ∧ -(17592186044416 * (j : Int)) ≤ t ∧ t ≤ 17592186044416 * (j : Int) ∧ -(17592186044416 * (j : Int)) ≤ d ∧ d ≤ 17592186044416 * (j : Int) ∧ Later W2 wr) (fun _ _ iv _ => parts.length - (intOf iv).toNat)
  case atStart => exact ⟨0, 0, 0, by omega, rfl, rfl, rfl, rfl, rfl, by omega, by omega, by omega, by omega, Later.refl _⟩
  case round =>
    obtain ⟨j, t, d, hj, rfl, rfl, rfl, ht, hd, b1, b2, b3, b4, hb⟩ := hrel
    have Ht := Lib.hid ht
    have Hd := Lib.hid hd
    clear ht hd
    have k0 : wr.cell? ⟨w.heap.size, 0, none⟩ = some (.int .i64 lot) := (D2.later hb).cell 0
    have k1 : wr.cell? ⟨w.heap.size, 1, none⟩ = some (.slice pa parts.length pc) := (D2.later hb).cell 1
    have zk := (D2.later hb).lt
    have hlw := hl2.trans hb
    by_cases hlt : j < parts.length
    · obtain ⟨bb, ob, rfl, hx4⟩ := (hp.later hlw) (by omega)
      obtain ⟨x0, x1, x2, x3⟩ := hx4.get hlt
      have zb := World.block_lt_of_cell? _ _ x1
      obtain ⟨a1, a2, a3, a4, a5, a6, a7⟩ := HB.out _ (List.getElem_mem hlt)
      obtain ⟨n, hn'⟩ : ∃ n : Nat, parts[j].a = (n : Int) := ⟨parts[j].a.toNat, by omega⟩
      have hnr : n < rs.length := by omega
      obtain ⟨bR, oR, rfl, r0, r1, r2, r3, r4, r5, r6, _⟩ := (hrs.later hlw).at_ hnr
      have zr := World.block_lt_of_cell? _ _ r1
      obtain ⟨w1, w2⟩ := HW.out _ (List.getElem_mem hnr)
      have HT := Lib.hid (show tknQ rs (parts.take (j + 1)) = tknQ rs (parts.take j) + 2 * (parts[j].c - parts[j].b) * rs[n].wd by
        rw [tknQ_take hlt, wdOf, hn', Int.toNat_natCast, grl_eq hnr])
      clear r0 r2 r3 r4 r5 r6
      generalize rs[n].wd = wq at *
      have hj0 : (0 : Int) ≤ (j : Int) := by omega
      have hj1 : (j : Int) < (parts.length : Int) := by omega
      have hn0 : (0 : Int) ≤ (n : Int) := by omega
      have hn1 : (n : Int) < (rs.length : Int) := by omega
      have hm := two_bd (a := 2 * (parts[j].c - parts[j].b)) (b := wq) (M := 2097152) (N := 1048576) (by omega) ⟨w1, w2⟩ (by omega)
      rcases Nat.eq_zero_or_pos j with h0 | h0
      · subst h0
        have HD := Lib.hid (show dblQ rs (parts.take 1) = 0 from dblQ_one)
        have Hd0 := Lib.hid (show d = 0 by rw [Hd.out]; rfl)
        generalize parts[0] = q at *
        obtain ⟨qa, qb, qc, qd⟩ := q
        simp only [] at x0 x1 x2 x3 a1 a2 a3 a4 a5 a6 a7 hn' hm HT
        subst hn'
        simp only [Nat.zero_mul, Nat.add_zero] at x0 x1 x2 x3
        have v1 : IntKind.i64.wrap (qc - qb) = qc - qb := IntWalk.i64_in _ (by omega)
        have v2 : IntKind.i64.wrap (2 * (qc - qb)) = 2 * (qc - qb) := IntWalk.i64_in _ (by omega)
        have v3 : IntKind.i64.wrap (2 * (qc - qb) * wq) = 2 * (qc - qb) * wq := IntWalk.i64_in _ (by omega)
        have v4 : IntKind.i64.wrap (t + 2 * (qc - qb) * wq) = t + 2 * (qc - qb) * wq := IntWalk.i64_in _ (by omega)
        go_upto_region 4 with fail
        go_quiet (fail)
        go_wp2
        go_roundw
        case rel => exact ⟨0 + 1, t + 2 * (qc - qb) * wq, d, by omega, by go_num, by go_num, by go_num, by rw [HT.out, ← Ht.out], by rw [HD.out, Hd0.out], by omega, by omega, by omega, by omega, hb.trans (by repeat' (with_reducible first | exact Later.refl _ | assumption | refine Later.drew ?_ | refine Later.drewN ?_ _ | refine Later.alloc ?_ _ | refine Later.put ?_ (by omega) _ | refine Later.trans ?_ (by assumption)))⟩
        case measure => simp [intOf]; omega
      · obtain ⟨i, rfl⟩ : ∃ i, j = i + 1 := ⟨j - 1, by omega⟩
        have hpl : i < parts.length := by omega
        obtain ⟨y0, y1, y2, y3⟩ := hx4.get hpl
        obtain ⟨p1, p2, p3, p4, p5, p6, p7⟩ := HB.out _ (List.getElem_mem hpl)
        obtain ⟨m, hm'⟩ : ∃ m : Nat, parts[i].a = (m : Int) := ⟨parts[i].a.toNat, by omega⟩
        have hmr : m < rs.length := by omega
        obtain ⟨_, _, eR, u0, u1, u2, u3, u4, u5, u6, _⟩ := (hrs.later hlw).at_ hmr
        cases eR
        clear u0 u2 u3 u4 u5 u6
        obtain ⟨w3, w4⟩ := HW.out _ (List.getElem_mem hmr)
        have HD := Lib.hid (show dblQ rs (parts.take (i + 1 + 1)) = dblQ rs (parts.take (i + 1)) + 2 * (endQ parts[i] - parts[i + 1].d) * rs[m].wd by
          rw [dblQ_take hlt, wdOf, hm', Int.toNat_natCast, grl_eq hmr])
        generalize rs[m].wd = wp at *
        generalize parts[i + 1] = q at *
        generalize parts[i] = p at *
        obtain ⟨qa, qb, qc, qd⟩ := q
        obtain ⟨pa_, pb, pc_, pd⟩ := p
        unfold endQ at HD
        simp only [] at x0 x1 x2 x3 a1 a2 a3 a4 a5 a6 a7 hn' hm HT y0 y1 y2 y3 p1 p2 p3 p4 p5 p6 p7 hm' HD
        subst hn' hm'
        have hm2 := two_bd (a := 2 * (pd + pc_ - pb - qd)) (b := wp) (M := 6291456) (N := 1048576) (by omega) ⟨w3, w4⟩ (by omega)
        have ei : ((i + 1 : Nat) : Int) = (i : Int) + 1 := by omega
        have v1 : IntKind.i64.wrap (qc - qb) = qc - qb := IntWalk.i64_in _ (by omega)
        have v2 : IntKind.i64.wrap (2 * (qc - qb)) = 2 * (qc - qb) := IntWalk.i64_in _ (by omega)
        have v3 : IntKind.i64.wrap (2 * (qc - qb) * wq) = 2 * (qc - qb) * wq := IntWalk.i64_in _ (by omega)
        have v4 : IntKind.i64.wrap (t + 2 * (qc - qb) * wq) = t + 2 * (qc - qb) * wq := IntWalk.i64_in _ (by omega)
        have v5 : IntKind.i64.wrap ((i : Int) + 1 - 1) = (i : Int) := by rw [Int.add_sub_cancel]; exact IntWalk.i64_in _ (by omega)
        have v5' : IntKind.i64.wrap (i : Int) = (i : Int) := IntWalk.i64_in _ (by omega)
        have v6 : IntKind.i64.wrap (pd + pc_) = pd + pc_ := IntWalk.i64_in _ (by omega)
        have v7 : IntKind.i64.wrap (pd + pc_ - pb) = pd + pc_ - pb := IntWalk.i64_in _ (by omega)
        have v8 : IntKind.i64.wrap (pd + pc_ - pb - qd) = pd + pc_ - pb - qd := IntWalk.i64_in _ (by omega)
        have v9 : IntKind.i64.wrap (2 * (pd + pc_ - pb - qd)) = 2 * (pd + pc_ - pb - qd) := IntWalk.i64_in _ (by omega)
        have va : IntKind.i64.wrap (2 * (pd + pc_ - pb - qd) * wp) = 2 * (pd + pc_ - pb - qd) * wp := IntWalk.i64_in _ (by omega)
        have vb : IntKind.i64.wrap (d + 2 * (pd + pc_ - pb - qd) * wp) = d + 2 * (pd + pc_ - pb - qd) * wp := IntWalk.i64_in _ (by omega)
        have hi0 : (0 : Int) ≤ (i : Int) := by omega
        have hi1 : (i : Int) < (parts.length : Int) := by omega
        have hmn0 : (0 : Int) ≤ (m : Int) := by omega
        have hmn1 : (m : Int) < (rs.length : Int) := by omega
        go_upto_region 4 with fail
        go_quiet (fail)
        go_upto_region 7 with fail
        go_quiet (fail)
        go_wp2
        go_roundw
        case rel => exact ⟨i + 1 + 1, t + 2 * (qc - qb) * wq, d + 2 * (pd + pc_ - pb - qd) * wp, by omega, by go_num, by go_num, by go_num, by rw [HT.out, ← Ht.out], by rw [HD.out, ← Hd.out], by omega, by omega, by omega, by omega, hb.trans (by repeat' (with_reducible first | exact Later.refl _ | assumption | refine Later.drew ?_ | refine Later.drewN ?_ _ | refine Later.alloc ?_ _ | refine Later.put ?_ (by omega) _ | refine Later.trans ?_ (by assumption)))⟩
        case measure => simp [intOf]; omega
    · have hje : j = parts.length := by omega
      have Ht2 := Lib.hid (show t = tknQ rs parts by rw [Ht.out, hje, List.take_length])
      have Hd2 := Lib.hid (show d = dblQ rs parts by rw [Hd.out, hje, List.take_length])
      go_wp2
      go_ret2
      exact ⟨by have e1 := Ht2.out; have e2 := Hd2.out; rw [← e1, ← e2]; rfl, hlw.trans (by repeat' (with_reducible first | exact Later.refl _ | assumption | refine Later.drew ?_ | refine Later.drewN ?_ _ | refine Later.alloc ?_ _ | refine Later.put ?_ (by omega) _ | refine Later.trans ?_ (by assumption)))⟩

end Go.Proofs.Ytpiniflhaokkaaa
