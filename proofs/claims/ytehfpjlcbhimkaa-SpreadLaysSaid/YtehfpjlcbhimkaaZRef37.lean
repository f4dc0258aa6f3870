/-
  Reference 37: common, zones, back, Back, Best return what the program's splice returns.
  Reference 37: Best returns what the program's Best returns.
  Reference 38: cloth, wide, begun, sound, End, joined, twice return what the program's twins return.
-/
import Derived.Test.YtehfpjlcbhimkaaZSplB
import Derived.Test.YtehfpjlcbhimkaaZSprQ
import Derived.Test.YtehfpjlcbhimkaaZRCar
import Derived.Test.YtehfpjlcbhimkaaZSimEq
import Derived.Test.YtehfpjlcbhimkaaZSprW
import Derived.Test.YtehfpjlcbhimkaaZRefP
/- Reference 37: common, zones, back, Back, Best return what the program's splice returns. -/
namespace Go.Proofs.Ytehfpjlcbhimkaa
open Go.RowKit
set_option linter.unusedSimpArgs false
set_option linter.unusedVariables false

theorem ref11_Box_ok' (A : Option Addr) (c : Nat) (ps : List Pt) (w : World) (hn : ps.length ≤ 1099511627776) (hcap : ps.length ≤ c) (hp : Pts w A ps) (hok : checkI ps = 0) :
    Calls Try.prog 92 #[.slice A ps.length c] w (Ret (.tuple #[.agg #[.int .i64 (loOf ps).x, .int .i64 (loOf ps).y, .int .i64 ((hiOf ps).x - (loOf ps).x), .int .i64 ((hiOf ps).y - (loOf ps).y)], .int .i64 0]) w) :=
  ref11_Box_ok A c ps w hn hcap hp (by rw [rcheck_eq]; exact hok)
theorem ref11_Box_err' (A : Option Addr) (c : Nat) (ps : List Pt) (w : World) (hn : ps.length ≤ 1099511627776) (hcap : ps.length ≤ c) (hp : Pts w A ps) (hok : checkI ps ≠ 0) :
    Calls Try.prog 92 #[.slice A ps.length c] w (Ret (.tuple #[.agg #[.int .i64 0, .int .i64 0, .int .i64 0, .int .i64 0], .int .i64 (checkI ps)]) w) := by
  have := ref11_Box_err A c ps w hn hcap hp (by rw [rcheck_eq]; exact hok)
  rw [rcheck_eq] at this
  exact this

set_option maxHeartbeats 4000000 in
set_option maxRecDepth 100000 in
theorem ref37_common (Q : Option Addr) (qc : Nat) (len : Int) (polys : List (List Pt)) (w : World) (hps : Polys w Q polys) (hpl : ∀ p ∈ polys, p.length ≤ 1099511627776) :
    Calls Try.prog 78 #[.int .i64 len, .slice Q polys.length qc] w (Ret (.int .i64 (extentsR len polys).2) w) := by
  go_enter Try.func78, Try.ntmps78
  by_cases h1 : len < 1
  · have d1 : decide (len < 1) = true := by simpa using h1
    have H := Lib.hid (ext_range (polys := polys) (.inl h1))
    go_wp2
    go_ret
    exact ⟨ret_int (by rw [H.out] <;> rfl), Later.refl _⟩
  have d1 : decide (len < 1) = false := by simpa using h1
  by_cases h2 : 1048576 < len
  · have d2 : decide (1048576 < len) = true := by simpa using h2
    have H := Lib.hid (ext_range (polys := polys) (.inr h2))
    go_wp2
    go_ret
    exact ⟨ret_int (by rw [H.out] <;> rfl), Later.refl _⟩
  have d2 : decide (1048576 < len) = false := by simpa using h2
  by_cases h3 : 60 < polys.length
  · have d3 : decide ((60 : Int) < (polys.length : Int)) = true := by simp; omega
    have H := Lib.hid (ext_long (len := len) (by omega) h3)
    go_wp2
    go_ret
    exact ⟨ret_int (by rw [H.out] <;> rfl), Later.refl _⟩
  have d3 : decide ((60 : Int) < (polys.length : Int)) = false := by simp; omega
  have H := Lib.hid (ext_go (len := len) (polys := polys) (by omega) h3)
  have h60 : polys.length ≤ 60 := by omega
  go_wp2
  clear d1 d2 d3
  go_loopw [5] (fun iv wr => ∃ (k : Nat) (acc : List Pt), k ≤ polys.length ∧ iv = .int .i64 k ∧ extGoZ len polys [] = extGoZ len (polys.drop k) acc ∧ Later w wr) (fun iv _ => polys.length - (intOf iv).toNat)
  case atStart => exact ⟨0, [], by omega, rfl, rfl, Later.refl _⟩
  case round =>
    obtain ⟨k, acc, hk, rfl, he, hb⟩ := hrel
    have He := Lib.hid he
    clear he
    by_cases hlt : k < polys.length
    · obtain ⟨bq, oq, A', c', rfl, k1, k2, k3⟩ := (hps.later hb).at_ hlt
      have Hd := Lib.hid (drop_cons' polys k hlt)
      have hpn := hpl _ (List.getElem_mem hlt)
      generalize polys[k] = ps at *
      have hbz : bq < wr.heap.size := World.block_lt_of_cell? _ _ k1
      rcases Classical.em (checkI ps = 0) with hc | hc
      · have HB := Lib.hid (fun W (hW : Later wr W) => ref11_Box_ok' A' c' ps W hpn k2 (k3.later hW) hc)
        have hsm := lo_sm (small_of_check hc)
        have Hok := Lib.hid (fun l (acc : List Pt) h => extgo_ok (len := len) (l := l) (acc := acc) hc h)
        have Hout := Lib.hid (fun l (acc : List Pt) h => extgo_out (len := len) (l := l) (acc := acc) hc h)
        clear hc
        generalize loOf ps = lo at *
        generalize hiOf ps = hi at *
        obtain ⟨lx, ly⟩ := lo
        obtain ⟨hx, hy⟩ := hi
        obtain ⟨⟨s1, s2⟩, ⟨s3, s4⟩⟩ := hsm
        unfold Sm at s1 s2 s3 s4
        simp only [] at s1 s2 s3 s4 HB Hok Hout
        by_cases hx0 : lx < 0
        · have dx0 : decide (lx < 0) = true := by simpa using hx0
          go_wp2_with (first | (go_at_call 92; (with_reducible refine (HB.out _ (Later.refl _)).mono ?_); rintro e w5 ⟨rfl, hb5⟩))
          go_ret
          exact ⟨ret_int (by rw [H.out, He.out, Hd.out, Hout.out _ _ (.inl hx0)] <;> rfl), (by repeat' (with_reducible first | exact Later.refl _ | assumption | refine Later.drew ?_ | refine Later.drewN ?_ _ | refine Later.alloc ?_ _ | refine Later.put ?_ (by omega) _ | refine Later.trans ?_ (by assumption)))⟩
        · have dx0 : decide (lx < 0) = false := by simpa using hx0
          by_cases hx1 : len < hx
          · have dx1 : decide (len < lx + (hx - lx)) = true := by simp; omega
            go_wp2_with (first | (go_at_call 92; (with_reducible refine (HB.out _ (Later.refl _)).mono ?_); rintro e w5 ⟨rfl, hb5⟩))
            go_ret
            exact ⟨ret_int (by rw [H.out, He.out, Hd.out, Hout.out _ _ (.inr hx1)] <;> rfl), (by repeat' (with_reducible first | exact Later.refl _ | assumption | refine Later.drew ?_ | refine Later.drewN ?_ _ | refine Later.alloc ?_ _ | refine Later.put ?_ (by omega) _ | refine Later.trans ?_ (by assumption)))⟩
          · have dx1 : decide (len < lx + (hx - lx)) = false := by simp; omega
            go_wp2_with (first | (go_at_call 92; (with_reducible refine (HB.out _ (Later.refl _)).mono ?_); rintro e w5 ⟨rfl, hb5⟩))
            go_roundw
            case rel => exact ⟨k + 1, acc ++ [⟨lx, hx⟩], by omega, by go_num, by rw [He.out, Hd.out, Hok.out _ _ (by omega)], (by repeat' (with_reducible first | exact Later.refl _ | assumption | refine Later.drew ?_ | refine Later.drewN ?_ _ | refine Later.alloc ?_ _ | refine Later.put ?_ (by omega) _ | refine Later.trans ?_ (by assumption)))⟩
            case measure => simp [intOf]; omega
      · have HB := Lib.hid (fun W (hW : Later wr W) => ref11_Box_err' A' c' ps W hpn k2 (k3.later hW) hc)
        have Hbad := Lib.hid (fun l (acc : List Pt) => extgo_bad (len := len) (l := l) (acc := acc) hc)
        have hne : (checkI ps != 0) = true := by simpa using hc
        have Hc := Lib.hid hc
        clear hc
        generalize checkI ps = er at *
        go_wp2_with (first | (go_at_call 92; (with_reducible refine (HB.out _ (Later.refl _)).mono ?_); rintro e w5 ⟨rfl, hb5⟩))
        go_ret
        exact ⟨ret_int (by rw [H.out, He.out, Hd.out, Hbad.out] <;> rfl), (by repeat' (with_reducible first | exact Later.refl _ | assumption | refine Later.drew ?_ | refine Later.drewN ?_ _ | refine Later.alloc ?_ _ | refine Later.put ?_ (by omega) _ | refine Later.trans ?_ (by assumption)))⟩
    · have H0 := Lib.hid (show extentsR len polys = (acc, 0) by rw [H.out, He.out, List.drop_eq_nil_of_le (by omega)]; rfl)
      go_wp2
      go_ret
      exact ⟨ret_int (by rw [H0.out]), hb⟩

/-- The zones, in memory. -/
def ZonesPost (zs : List Pt) (w : World) (e : Ending) (w' : World) : Prop := ∃ A c, e = .returned (.slice A zs.length c) ∧ zs.length ≤ c ∧ c ≤ maxLen ∧ Pts w' A zs ∧ Later w w'
def zoneOf (p : List Pt) : Pt := ⟨(loOf p).x, (hiOf p).x⟩
set_option maxHeartbeats 4000000 in
set_option maxRecDepth 100000 in
theorem ref37_zones (Q : Option Addr) (qc : Nat) (polys : List (List Pt)) (w : World) (hps : Polys w Q polys) (hpl : ∀ p ∈ polys, p.length ≤ 1099511627776) (h60 : polys.length ≤ 60) (hck : ∀ p ∈ polys, checkI p = 0) :
    Calls Try.prog 80 #[.slice Q polys.length qc] w (ZonesPost (polys.map zoneOf) w) := by
  have Hck := Lib.hid hck
  clear hck
  go_enter Try.func80, Try.ntmps80
  go_wp2
  go_loopw [3, 4] (fun v iv wr => ∃ (k : Nat) (acc : List Pt), k ≤ polys.length ∧ iv = .int .i64 k ∧ acc = (polys.take k).map zoneOf ∧ OwnR wr w.heap.size 115 2 pt2 v acc ∧ Later w wr) (fun _ iv _ => polys.length - (intOf iv).toNat)
  case atStart => exact ⟨0, [], by omega, rfl, rfl, World.ownsRow_nil _ _ _ _, Later.refl _⟩
  case round =>
    obtain ⟨k, acc, hk, rfl, he, ho, hb⟩ := hrel
    have He := Lib.hid he
    have Ho := Lib.hid ho
    have Hacl := Lib.hid (show acc.length ≤ 60 by rw [he]; simp; omega)
    clear he ho
    by_cases hlt : k < polys.length
    · obtain ⟨bq, oq, A', c', rfl, k1, k2, k3⟩ := (hps.later hb).at_ hlt
      have Htk := Lib.hid (show polys.take (k + 1) = polys.take k ++ [polys[k]] from List.take_succ_eq_append_getElem hlt)
      have hpn := hpl _ (List.getElem_mem hlt)
      have hc := Hck.out _ (List.getElem_mem hlt)
      have Hpk := Lib.hid (rfl : zoneOf polys[k] = zoneOf polys[k])
      generalize hpk : polys[k] = ps at *
      clear hpk
      have hbz : bq < wr.heap.size := World.block_lt_of_cell? _ _ k1
      have HB := Lib.hid (fun W (hW : Later wr W) => ref11_Box_ok' A' c' ps W hpn k2 (k3.later hW) hc)
      have hsm := lo_sm (small_of_check hc)
      clear hc
      have Hz := Lib.hid (show zoneOf ps = ⟨(loOf ps).x, (hiOf ps).x⟩ from rfl)
      generalize loOf ps = lo at *
      generalize hiOf ps = hi at *
      obtain ⟨lx, ly⟩ := lo
      obtain ⟨hx, hy⟩ := hi
      obtain ⟨⟨s1, s2⟩, ⟨s3, s4⟩⟩ := hsm
      unfold Sm at s1 s2 s3 s4
      simp only [] at s1 s2 s3 s4 HB Hz
      go_upto_region 6 with (first | (go_at_call 92; (with_reducible refine (HB.out _ (Later.refl _)).mono ?_); rintro e w5 ⟨rfl, hb5⟩))
      refine name_world (fun W9 hW9 => ?_)
      have hl9 : Later wr W9 := by rw [hW9]; exact (by repeat' (with_reducible first | exact Later.refl _ | assumption | refine Later.drew ?_ | refine Later.drewN ?_ _ | refine Later.alloc ?_ _ | refine Later.put ?_ (by omega) _ | refine Later.trans ?_ (by assumption)))
      have z0 : W9.cell? ⟨w5.heap.size, 0, none⟩ = some (.int .i64 lx) := by rw [hW9]; simp [go_sem]
      have z2 : W9.cell? ⟨w5.heap.size, 2, none⟩ = some (.int .i64 (hx - lx)) := by rw [hW9]; simp [go_sem]
      have hgz : w5.heap.size < W9.heap.size := World.block_lt_of_cell? _ _ z0
      clear hW9
      generalize w5.heap.size = g9 at *
      have HS := Lib.hid (SrcAt.blk (Blk.new W9 115 #[.int .i64 lx, .int .i64 (lx + (hx - lx))]))
      have Hsum := Lib.hid (show lx + (hx - lx) = hx by omega)
      go_wp2_with (at_builtin; refine wpList_append_rec slt_zone pt2_len pt2_one rfl (.tmp 21) (.tmp 30) rfl (base := w.heap.size) (l := acc) rfl (OwnR.alloc (Ho.out.later hl9) _) (A := some ⟨W9.heap.size, 0, none⟩) (c := 1) [⟨lx, lx + (hx - lx)⟩] rfl (by intro h; cases h) HS.out (by have := Hacl.out; simp; omega) (by have := hb.size; have := hl9.size; simp; omega) ?_; intro A3 c3' w3 ho3 hg3)
      have hl3 : Later w w3 := Later.grown ((hb.trans hl9).alloc _) hg3 (fun g hg => (World.ownsRow.lt Ho.out g hg).1)
      clear hg3
      have Ho3 := Lib.hid ho3
      clear ho3
      simp only [List.length_append, List.length_singleton] at Ho3
      go_roundw
      case rel => exact ⟨k + 1, acc ++ [⟨lx, lx + (hx - lx)⟩], by omega, by go_num, by rw [Htk.out, List.map_append, ← He.out, List.map_singleton, Hz.out, Hsum.out], Ho3.out, hl3⟩
      case measure => simp [intOf]; omega
    · have H0 := Lib.hid (show acc = polys.map zoneOf by rw [He.out, List.take_of_length_le (by omega)])
      obtain ⟨A6, c6, e6, p1, p2, p3⟩ := Ho.out.zns
      subst e6
      go_wp2
      go_ret
      exact ⟨A6, c6, by rw [← H0.out] <;> rfl, by rw [← H0.out]; exact p1, p2, by rw [← H0.out]; exact p3, hb⟩

attribute [local go_sem] ite_min ite_max
set_option maxHeartbeats 2000000 in
theorem ref37_back (B : Option Addr) (cb : Nat) (zs : List Pt) (hi : Int) (w : World) (hz : Pts w B zs) (hn : zs.length ≤ 65536) :
    Calls Try.prog 79 #[.slice B zs.length cb, .int .i64 hi] w (Ret (.int .i64 (backR zs hi)) w) := by
  go_enter Try.func79, Try.ntmps79
  go_wp2
  go_loopw [5, 6] (fun v iv wr => ∃ (k : Nat) (lo : Int), k ≤ zs.length ∧ iv = .int .i64 k ∧ v = .int .i64 lo ∧ backR zs hi = (zs.drop k).foldl (fun lo z => if hi < z.y then min lo z.x else lo) lo ∧ Later w wr) (fun _ iv _ => zs.length - (intOf iv).toNat)
  case atStart => exact ⟨0, hi, by omega, rfl, rfl, rfl, Later.refl _⟩
  case round =>
    obtain ⟨k, lo, hk, rfl, rfl, he, hb⟩ := hrel
    have He := Lib.hid he
    clear he
    by_cases hlt : k < zs.length
    · obtain ⟨b, o, rfl, e1, e2⟩ := (hz.later hb).at_ hlt
      have hbz : b < wr.heap.size := World.block_lt_of_cell? _ _ e1
      have Hd := Lib.hid (drop_cons' zs k hlt)
      generalize zs[k] = z at *
      obtain ⟨zx, zy⟩ := z
      simp only [] at e1 e2
      by_cases h1 : hi < zy
      · have Hs := Lib.hid (show (if hi < zy then min lo zx else lo) = min lo zx by rw [if_pos h1])
        go_wp2
        go_roundw
        case rel => exact ⟨k + 1, _, by omega, by go_num, rfl, by rw [He.out, Hd.out, back_step, Hs.out], (by repeat' (with_reducible first | exact Later.refl _ | assumption | refine Later.drew ?_ | refine Later.drewN ?_ _ | refine Later.alloc ?_ _ | refine Later.put ?_ (by omega) _ | refine Later.trans ?_ (by assumption)))⟩
        case measure => simp [intOf]; omega
      · have Hs := Lib.hid (show (if hi < zy then min lo zx else lo) = lo by rw [if_neg h1])
        go_wp2
        go_roundw
        case rel => exact ⟨k + 1, _, by omega, by go_num, rfl, by rw [He.out, Hd.out, back_step, Hs.out], (by repeat' (with_reducible first | exact Later.refl _ | assumption | refine Later.drew ?_ | refine Later.drewN ?_ _ | refine Later.alloc ?_ _ | refine Later.put ?_ (by omega) _ | refine Later.trans ?_ (by assumption)))⟩
        case measure => simp [intOf]; omega
    · go_wp2
      go_ret
      exact ⟨ret_int (by rw [He.out, List.drop_eq_nil_of_le (by omega)]; rfl), hb⟩

theorem zones_of {len : Int} {polys : List (List Pt)} (h : (extentsR len polys).2 = 0) : (extentsR len polys).1 = polys.map zoneOf ∧ (∀ p ∈ polys, checkI p = 0) ∧ polys.length ≤ 60 := by
  obtain ⟨a, b⟩ := ext_zones h
  exact ⟨a, fun p hp => (b p hp).1, (ext_zero h).2.2.1⟩
set_option maxHeartbeats 2000000 in
theorem ref37_Back (Q : Option Addr) (qc : Nat) (len hi : Int) (polys : List (List Pt)) (w : World) (hps : Polys w Q polys) (hpl : ∀ p ∈ polys, p.length ≤ 1099511627776) :
    Calls Try.prog 58 #[.int .i64 len, .slice Q polys.length qc, .int .i64 hi] w (Ret (.tuple #[.int .i64 (BackR len polys hi).1, .int .i64 (BackR len polys hi).2]) w) := by
  have HE := Lib.hid (ref37_common Q qc len polys w hps hpl)
  have HZ := Lib.hid (fun (h : (extentsR len polys).2 = 0) W (hW : Later w W) => ref37_zones Q qc polys W (hps.later hW) hpl (zones_of h).2.2 (zones_of h).2.1)
  have Hze := Lib.hid (fun (h : (extentsR len polys).2 = 0) => (zones_of h).1)
  have Hzl := Lib.hid (fun (h : (extentsR len polys).2 = 0) => (zones_of h).2.2)
  have Hbad := Lib.hid (backR_bad (len := len) (polys := polys) (hi := hi))
  have Hrg := Lib.hid (backR_range (len := len) (polys := polys) (hi := hi))
  have Hin := Lib.hid (backR_in (len := len) (polys := polys) (hi := hi))
  generalize extentsR len polys = E at *
  generalize BackR len polys hi = R at *
  obtain ⟨zs, er⟩ := E
  simp only [] at *
  rcases Classical.em (er = 0) with h0 | h0
  · subst h0
    have hzs := Hze.out rfl
    have hzl : zs.length ≤ 60 := by rw [hzs, List.length_map]; exact Hzl.out rfl
    have HZ2 := Lib.hid (HZ.out rfl)
    rw [← hzs] at HZ2
    clear HZ Hze Hzl hzs
    by_cases h1 : hi < 0
    · have d1 : decide (hi < 0) = true := by simpa using h1
      have Hr := Lib.hid (Hrg.out rfl (.inl h1))
      go_enter Try.func58, Try.ntmps58
      go_wp2_with (first | (go_at_call 78; (with_reducible refine HE.out.mono ?_); rintro e w1 ⟨rfl, hb1⟩))
      go_ret2
      exact ⟨by rw [Hr.out]; rfl, hb1⟩
    · have d1 : decide (hi < 0) = false := by simpa using h1
      by_cases h2 : len < hi
      · have d2 : decide (len < hi) = true := by simpa using h2
        have Hr := Lib.hid (Hrg.out rfl (.inr h2))
        go_enter Try.func58, Try.ntmps58
        go_wp2_with (first | (go_at_call 78; (with_reducible refine HE.out.mono ?_); rintro e w1 ⟨rfl, hb1⟩))
        go_ret2
        exact ⟨by rw [Hr.out]; rfl, hb1⟩
      · have d2 : decide (len < hi) = false := by simpa using h2
        have Hr := Lib.hid (Hin.out rfl (by omega))
        go_enter Try.func58, Try.ntmps58
        go_wp2_with (first | (go_at_call 78; (with_reducible refine HE.out.mono ?_); rintro e w1 ⟨rfl, hb1⟩) | (go_at_call 80; (with_reducible refine (HZ2.out _ (by repeat' (with_reducible first | exact Later.refl _ | assumption | refine Later.drew ?_ | refine Later.drewN ?_ _ | refine Later.alloc ?_ _ | refine Later.put ?_ (by omega) _ | refine Later.trans ?_ (by assumption)))).mono ?_); rintro e w2 ⟨A2, c2, rfl, p1, p2, p3, hb2⟩) | (go_at_call 79; (with_reducible refine (ref37_back A2 c2 zs hi _ p3 (by omega)).mono ?_); rintro e w3 ⟨rfl, hb3⟩))
        go_ret2
        exact ⟨by rw [Hr.out]; rfl, (by repeat' (with_reducible first | exact Later.refl _ | assumption | refine Later.drew ?_ | refine Later.drewN ?_ _ | refine Later.alloc ?_ _ | refine Later.put ?_ (by omega) _ | refine Later.trans ?_ (by assumption)))⟩
  · have dn : (er != 0) = true := by simpa using h0
    have Hr := Lib.hid (Hbad.out h0)
    go_enter Try.func58, Try.ntmps58
    go_wp2_with (first | (go_at_call 78; (with_reducible refine HE.out.mono ?_); rintro e w1 ⟨rfl, hb1⟩))
    go_ret2
    exact ⟨by rw [Hr.out]; rfl, hb1⟩

end Go.Proofs.Ytehfpjlcbhimkaa

/- Reference 37: Best returns what the program's Best returns. -/
namespace Go.Proofs.Ytehfpjlcbhimkaa
open Go.RowKit
set_option linter.unusedSimpArgs false
set_option linter.unusedVariables false

/-- The reference's answer, from the search over every end in turn. -/
theorem best_ref {len lo hi : Int} {polys : List (List Pt)} (h : (extentsR len polys).2 = 0) (h2 : ¬ (lo < 0 ∨ hi < lo ∨ len < hi)) :
    BestR len polys lo hi = if (rbestN (extentsR len polys).1 lo (hi.toNat + 1)).1 = true then ((rbestN (extentsR len polys).1 lo (hi.toNat + 1)).2, 0) else (⟨0, 0⟩, 18) := by
  rw [bestR_in h h2]
  have hz : ∀ y ∈ (extentsR len polys).1, 0 ≤ y.x ∧ y.x ≤ y.y := fun y hy => by have := ext_in h y hy; omega
  obtain ⟨e1, e2⟩ := best_same (lo := lo) (hi := hi) hz (by omega) (by omega)
  rw [e1]
  split
  · rename_i h3
    rw [e2 h3]
  · rfl
theorem rb_far {zs : List Pt} {lo h : Int} {s : Bool × Pt} (h1 : backR zs h ≤ lo) : rbestStep zs lo s h = s := by unfold rbestStep; rw [if_neg (by omega)]
theorem rb_take {zs : List Pt} {lo h : Int} {s : Bool × Pt} (h1 : lo < backR zs h) (h2 : s.1 = false ∨ h - backR zs h ≤ s.2.y - s.2.x) : rbestStep zs lo s h = (true, ⟨backR zs h, h⟩) := by unfold rbestStep; rw [if_pos ⟨h1, h2⟩]
theorem rb_keep {zs : List Pt} {lo h : Int} {s : Bool × Pt} (h2 : ¬ (s.1 = false ∨ h - backR zs h ≤ s.2.y - s.2.x)) : rbestStep zs lo s h = s := by unfold rbestStep; rw [if_neg (fun k => h2 k.2)]

set_option maxHeartbeats 4000000 in
theorem ref37_Best_err (Q : Option Addr) (qc : Nat) (len lo hi : Int) (polys : List (List Pt)) (w : World) (hps : Polys w Q polys) (hpl : ∀ p ∈ polys, p.length ≤ 1099511627776) (he0 : (extentsR len polys).2 ≠ 0) :
    Calls Try.prog 61 #[.int .i64 len, .slice Q polys.length qc, .int .i64 lo, .int .i64 hi] w (Ret (.tuple #[.agg #[.int .i64 0, .int .i64 0], .int .i64 (extentsR len polys).2]) w) := by
  have HE := Lib.hid (fun W (hW : Later w W) => ref37_common Q qc len polys W (hps.later hW) hpl)
  generalize extentsR len polys = E at *
  obtain ⟨zs, er⟩ := E
  simp only [] at *
  have dn : (er != 0) = true := by simpa using he0
  go_enter Try.func61, Try.ntmps61
  go_upto_region 2 with (first | (go_at_call 78; (with_reducible refine (HE.out _ (by repeat' (with_reducible first | exact Later.refl _ | assumption | refine Later.drew ?_ | refine Later.drewN ?_ _ | refine Later.alloc ?_ _ | refine Later.put ?_ (by omega) _ | refine Later.trans ?_ (by assumption)))).mono ?_); rintro e w1 ⟨rfl, hb1⟩; have R0 : w1.cell? ⟨w.heap.size, 0, none⟩ = some (.int .i64 0) := hb1.cell (by simp [go_sem]); have R1 : w1.cell? ⟨w.heap.size, 1, none⟩ = some (.int .i64 0) := hb1.cell (by simp [go_sem])))
  have D8 : Blk w1 w.heap.size 115 #[.int .i64 0, .int .i64 0] := Blk.later (by repeat' (with_reducible first | assumption | (refine Blk.newAt ?_; simp; done) | refine Blk.alloc ?_ _ | refine Blk.drew ?_ | refine Blk.drewN ?_ _ | refine Blk.later ?_ (by assumption))) hb1
  have hlw1 : Later w w1 := (by repeat' (with_reducible first | exact Later.refl _ | assumption | refine Later.drew ?_ | refine Later.drewN ?_ _ | refine Later.alloc ?_ _ | refine Later.put ?_ (by omega) _ | refine Later.trans ?_ (by assumption)))
  have xf0 := D8.frozen 0
  have xf1 := D8.frozen 1
  clear hb1
  go_wp2
  refine bodyPost_ret (v := .tuple #[.agg #[.int .i64 0, .int .i64 0], .int .i64 er]) (by simp [results, Try.results61, go_sem, R0, R1]) rfl ⟨rfl, ?_⟩
  exact (hlw1.put (Nat.le_refl _) _).put (Nat.le_refl _) _

set_option maxHeartbeats 4000000 in
set_option maxRecDepth 100000 in
theorem ref37_Best_range (Q : Option Addr) (qc : Nat) (len lo hi : Int) (polys : List (List Pt)) (w : World) (hps : Polys w Q polys) (hpl : ∀ p ∈ polys, p.length ≤ 1099511627776) (he0 : (extentsR len polys).2 = 0) (hr : lo < 0 ∨ hi < lo ∨ len < hi) :
    Calls Try.prog 61 #[.int .i64 len, .slice Q polys.length qc, .int .i64 lo, .int .i64 hi] w (Ret (.tuple #[.agg #[.int .i64 0, .int .i64 0], .int .i64 3]) w) := by
  have HE := Lib.hid (fun W (hW : Later w W) => ref37_common Q qc len polys W (hps.later hW) hpl)
  generalize extentsR len polys = E at *
  obtain ⟨zs, er⟩ := E
  simp only [] at *
  subst he0
  go_enter Try.func61, Try.ntmps61
  go_upto_region 4 with (first | (go_at_call 78; (with_reducible refine (HE.out _ (by repeat' (with_reducible first | exact Later.refl _ | assumption | refine Later.drew ?_ | refine Later.drewN ?_ _ | refine Later.alloc ?_ _ | refine Later.put ?_ (by omega) _ | refine Later.trans ?_ (by assumption)))).mono ?_); rintro e w1 ⟨rfl, hb1⟩; have R0 : w1.cell? ⟨w.heap.size, 0, none⟩ = some (.int .i64 0) := hb1.cell (by simp [go_sem]); have R1 : w1.cell? ⟨w.heap.size, 1, none⟩ = some (.int .i64 0) := hb1.cell (by simp [go_sem])))
  have D8 : Blk w1 w.heap.size 115 #[.int .i64 0, .int .i64 0] := Blk.later (by repeat' (with_reducible first | assumption | (refine Blk.newAt ?_; simp; done) | refine Blk.alloc ?_ _ | refine Blk.drew ?_ | refine Blk.drewN ?_ _ | refine Blk.later ?_ (by assumption))) hb1
  have hlw1 : Later w w1 := (by repeat' (with_reducible first | exact Later.refl _ | assumption | refine Later.drew ?_ | refine Later.drewN ?_ _ | refine Later.alloc ?_ _ | refine Later.put ?_ (by omega) _ | refine Later.trans ?_ (by assumption)))
  have xf0 := D8.frozen 0
  have xf1 := D8.frozen 1
  clear hb1
  go_cut [34] (fun v wx => v = .bool true ∧ wx = w1)
  case first =>
    by_cases h1 : lo < 0
    · have d1 : decide (lo < 0) = true := by simpa using h1
      go_wp2_with fail
      go_meet
      exact ⟨rfl, rfl⟩
    · have d1 : decide (lo < 0) = false := by simpa using h1
      by_cases h2 : hi < lo
      · have d2 : decide (hi < lo) = true := by simpa using h2
        go_wp2_with fail
        go_meet
        exact ⟨rfl, rfl⟩
      · have d2 : decide (hi < lo) = false := by simpa using h2
        have h3 : len < hi := by omega
        have d3 : decide (len < hi) = true := by simpa using h3
        go_wp2_with fail
        go_meet
        exact ⟨rfl, rfl⟩
  case rest =>
  obtain ⟨rfl, rfl⟩ := hcut
  go_wp2
  refine bodyPost_ret (v := .tuple #[.agg #[.int .i64 0, .int .i64 0], .int .i64 3]) (by simp [results, Try.results61, go_sem, R0, R1]) rfl ⟨rfl, ?_⟩
  exact (hlw1.put (Nat.le_refl _) _).put (Nat.le_refl _) _

set_option maxHeartbeats 8000000 in
set_option maxRecDepth 100000 in
theorem ref37_Best_in (Q : Option Addr) (qc : Nat) (len lo hi : Int) (polys : List (List Pt)) (w : World) (hps : Polys w Q polys) (hpl : ∀ p ∈ polys, p.length ≤ 1099511627776) (he0 : (extentsR len polys).2 = 0) (hr : ¬ (lo < 0 ∨ hi < lo ∨ len < hi)) :
    Calls Try.prog 61 #[.int .i64 len, .slice Q polys.length qc, .int .i64 lo, .int .i64 hi] w (Ret (.tuple #[.agg #[.int .i64 (BestR len polys lo hi).1.x, .int .i64 (BestR len polys lo hi).1.y], .int .i64 (BestR len polys lo hi).2]) w) := by
  have HE := Lib.hid (fun W (hW : Later w W) => ref37_common Q qc len polys W (hps.later hW) hpl)
  have HZ := Lib.hid (fun W (hW : Later w W) => ref37_zones Q qc polys W (hps.later hW) hpl (zones_of he0).2.2 (zones_of he0).2.1)
  have hzs := (zones_of he0).1
  have hzl : (extentsR len polys).1.length ≤ 60 := by rw [hzs, List.length_map]; exact (zones_of he0).2.2
  rw [← hzs] at HZ
  have hzi := ext_in he0
  have hlen := ext_zero he0
  have Hin := Lib.hid (best_ref (len := len) (polys := polys) (lo := lo) (hi := hi) he0 hr)
  clear hzs
  generalize extentsR len polys = E at *
  generalize BestR len polys lo hi = R at *
  obtain ⟨zs, er⟩ := E
  simp only [] at *
  subst he0
  have d1 : decide (lo < 0) = false := by simp; omega
  have d2 : decide (hi < lo) = false := by simp; omega
  have d3 : decide (len < hi) = false := by simp; omega
  have hhi : 0 ≤ hi ∧ hi ≤ 1048576 := by omega
  have Hbk := Lib.hid (fun h hh => back_bd (h := h) hzi hh)
  obtain ⟨n, rfl⟩ : ∃ n : Nat, hi = (n : Int) := ⟨hi.toNat, by omega⟩
  rw [Int.toNat_natCast] at Hin
  clear hps hlen hr hzi
  go_enter Try.func61, Try.ntmps61
  go_upto_region 6 with (first | (go_at_call 78; (with_reducible refine (HE.out _ (by repeat' (with_reducible first | exact Later.refl _ | assumption | refine Later.drew ?_ | refine Later.drewN ?_ _ | refine Later.alloc ?_ _ | refine Later.put ?_ (by omega) _ | refine Later.trans ?_ (by assumption)))).mono ?_); rintro e w1 ⟨rfl, hb1⟩; have R0 : w1.cell? ⟨w.heap.size, 0, none⟩ = some (.int .i64 0) := hb1.cell (by simp [go_sem]); have R1 : w1.cell? ⟨w.heap.size, 1, none⟩ = some (.int .i64 0) := hb1.cell (by simp [go_sem])))
  have hlw1 : Later w w1 := (by repeat' (with_reducible first | exact Later.refl _ | assumption | refine Later.drew ?_ | refine Later.drewN ?_ _ | refine Later.alloc ?_ _ | refine Later.put ?_ (by omega) _ | refine Later.trans ?_ (by assumption)))
  have D8 : Blk w1 w.heap.size 115 #[.int .i64 0, .int .i64 0] := Blk.later (by repeat' (with_reducible first | assumption | (refine Blk.newAt ?_; simp; done) | refine Blk.alloc ?_ _ | refine Blk.drew ?_ | refine Blk.drewN ?_ _ | refine Blk.later ?_ (by assumption))) hb1
  clear hb1 HE d1 d2 d3 R0 R1
  have zN : w.heap.size < w1.heap.size := D8.lt
  generalize hN : w.heap.size = N at *
  have HN := Lib.hid hN
  clear hN
  go_upto_region 9 with (first | (go_at_call 80; (with_reducible refine (HZ.out _ hlw1).mono ?_); rintro e w2 ⟨A1, c1, rfl, q1, q2, q3, hb2⟩))
  refine name_world (fun W3 hW3 => ?_)
  have hl3 : Later w2 W3 := by rw [hW3]; exact (by repeat' (with_reducible first | exact Later.refl _ | assumption | refine Later.drew ?_ | refine Later.drewN ?_ _ | refine Later.alloc ?_ _ | refine Later.put ?_ (by omega) _ | refine Later.trans ?_ (by assumption)))
  have D12 : Blk W3 w2.heap.size 115 #[.int .i64 0, .int .i64 0] := by rw [hW3]; exact (by repeat' (with_reducible first | assumption | (refine Blk.newAt ?_; simp; done) | refine Blk.alloc ?_ _ | refine Blk.drew ?_ | refine Blk.drewN ?_ _ | refine Blk.later ?_ (by assumption)))
  clear hW3
  generalize hgb : w2.heap.size = gb at D12 ⊢
  have Hgb := Lib.hid (show w2.heap.size ≤ gb by omega)
  clear hgb
  go_loopw [13, 14] (fun v iv wq => ∃ (k : Nat) (s : Bool × Pt), k ≤ n + 1 ∧ iv = .int .i64 k ∧ v = .bool s.1 ∧ rbestN zs lo k = s ∧ Later w2 wq ∧ Blk wq gb 115 #[.int .i64 s.2.x, .int .i64 s.2.y] ∧ (0 ≤ s.2.x ∧ s.2.x ≤ 1048576 ∧ 0 ≤ s.2.y ∧ s.2.y ≤ 1048576)) (fun _ iv _ => n + 1 - (intOf iv).toNat)
  case atStart => exact ⟨0, (false, ⟨0, 0⟩), by omega, rfl, rfl, rfl, hl3, D12, by decide⟩
  case round =>
    obtain ⟨k, ⟨sf, ⟨sx, sy⟩⟩, hk, rfl, rfl, he, hb, hD, hbd⟩ := hrel
    simp only [] at hD hbd he
    have He := Lib.hid he
    have HD := Lib.hid hD
    have Hbd := Lib.hid hbd
    have s0 : wr.cell? ⟨gb, 0, none⟩ = some (.int .i64 sx) := hD.cell 0
    have s1 : wr.cell? ⟨gb, 1, none⟩ = some (.int .i64 sy) := hD.cell 1
    have zb : gb < wr.heap.size := hD.lt
    clear he hD
    by_cases hlt : k ≤ n
    · have HB := Lib.hid (fun W (hW : Later wr W) => ref37_back A1 c1 zs (k : Int) W (q3.later (hb.trans hW)) (by omega))
      have hbk := Hbk.out (k : Int) (by omega)
      have Hst := Lib.hid (show rbestN zs lo (k + 1) = rbestStep zs lo (sf, ⟨sx, sy⟩) (k : Int) by rw [← He.out]; rfl)
      have Hfar := Lib.hid (rb_far (zs := zs) (lo := lo) (h := (k : Int)) (s := (sf, ⟨sx, sy⟩)))
      have Htake := Lib.hid (rb_take (zs := zs) (lo := lo) (h := (k : Int)) (s := (sf, ⟨sx, sy⟩)))
      have Hkeep := Lib.hid (rb_keep (zs := zs) (lo := lo) (h := (k : Int)) (s := (sf, ⟨sx, sy⟩)))
      generalize backR zs (k : Int) = bk at *
      simp only [] at Hfar Htake Hkeep
      have HbdN := Lib.hid (show 0 ≤ bk ∧ bk ≤ 1048576 ∧ 0 ≤ (k : Int) ∧ (k : Int) ≤ 1048576 by omega)
      by_cases h2 : bk ≤ lo
      · have d2 : decide (lo < bk) = false := by simpa using h2
        go_wp2_with (first | (go_at_call 79; (with_reducible refine (HB.out _ (by repeat' (with_reducible first | exact Later.refl _ | assumption | refine Later.drew ?_ | refine Later.drewN ?_ _ | refine Later.alloc ?_ _ | refine Later.put ?_ (by omega) _ | refine Later.trans ?_ (by assumption)))).mono ?_); rintro e w5 ⟨rfl, hb5⟩; have s0 := hb5.cell s0; have s1 := hb5.cell s1; have zb := World.block_lt_of_cell? _ _ s0))
        go_roundw
        case rel => exact ⟨k + 1, (sf, ⟨sx, sy⟩), by omega, by go_num, rfl, by rw [Hst.out]; exact Hfar.out h2, hb.trans (by repeat' (with_reducible first | exact Later.refl _ | assumption | refine Later.drew ?_ | refine Later.drewN ?_ _ | refine Later.alloc ?_ _ | refine Later.put ?_ (by omega) _ | refine Later.trans ?_ (by assumption))), by first | exact (HD.out.later hb5).drew | exact HD.out.later hb5, Hbd.out⟩
        case measure => simp [intOf]; omega
      have d2 : decide (lo < bk) = true := by simpa using h2
      cases sf
      · skip
        have xz0 := HD.out.frozen 0
        have xz1 := HD.out.frozen 1
        go_wp2_with (first | (go_at_call 79; (with_reducible refine (HB.out _ (by repeat' (with_reducible first | exact Later.refl _ | assumption | refine Later.drew ?_ | refine Later.drewN ?_ _ | refine Later.alloc ?_ _ | refine Later.put ?_ (by omega) _ | refine Later.trans ?_ (by assumption)))).mono ?_); rintro e w5 ⟨rfl, hb5⟩; have s0 := hb5.cell s0; have s1 := hb5.cell s1; have zb := World.block_lt_of_cell? _ _ s0; have xz0 := (HD.out.later hb5).frozen 0; have xz1 := (HD.out.later hb5).frozen 1))
        go_roundw
        case rel =>
          refine ⟨k + 1, (true, ⟨bk, (k : Int)⟩), by omega, by go_num, rfl, by rw [Hst.out]; exact Htake.out (by omega) (.inl (by first | trivial | rfl)), ?_, ?_, HbdN.out⟩
          · exact ((hb.trans hb5).put (by have := Hgb.out; omega) _).put (by have := Hgb.out; omega) _
          · exact (HD.out.later hb5).two
        case measure => simp [intOf]; omega
      by_cases h3 : (k : Int) - bk ≤ sy - sx
      · have d3 : decide ((k : Int) - bk ≤ sy - sx) = true := by simpa using h3
        have xz0 := HD.out.frozen 0
        have xz1 := HD.out.frozen 1
        go_wp2_with (first | (go_at_call 79; (with_reducible refine (HB.out _ (by repeat' (with_reducible first | exact Later.refl _ | assumption | refine Later.drew ?_ | refine Later.drewN ?_ _ | refine Later.alloc ?_ _ | refine Later.put ?_ (by omega) _ | refine Later.trans ?_ (by assumption)))).mono ?_); rintro e w5 ⟨rfl, hb5⟩; have s0 := hb5.cell s0; have s1 := hb5.cell s1; have zb := World.block_lt_of_cell? _ _ s0; have xz0 := (HD.out.later hb5).frozen 0; have xz1 := (HD.out.later hb5).frozen 1))
        go_roundw
        case rel =>
          refine ⟨k + 1, (true, ⟨bk, (k : Int)⟩), by omega, by go_num, rfl, by rw [Hst.out]; exact Htake.out (by omega) (.inr h3), ?_, ?_, HbdN.out⟩
          · exact ((hb.trans hb5).put (by have := Hgb.out; omega) _).put (by have := Hgb.out; omega) _
          · exact (HD.out.later hb5).two
        case measure => simp [intOf]; omega
      have d3 : decide ((k : Int) - bk ≤ sy - sx) = false := by simpa using h3
      go_wp2_with (first | (go_at_call 79; (with_reducible refine (HB.out _ (by repeat' (with_reducible first | exact Later.refl _ | assumption | refine Later.drew ?_ | refine Later.drewN ?_ _ | refine Later.alloc ?_ _ | refine Later.put ?_ (by omega) _ | refine Later.trans ?_ (by assumption)))).mono ?_); rintro e w5 ⟨rfl, hb5⟩; have s0 := hb5.cell s0; have s1 := hb5.cell s1; have zb := World.block_lt_of_cell? _ _ s0))
      go_roundw
      case rel => exact ⟨k + 1, (true, ⟨sx, sy⟩), by omega, by go_num, rfl, by rw [Hst.out]; exact Hkeep.out (by simp; omega), hb.trans (by repeat' (with_reducible first | exact Later.refl _ | assumption | refine Later.drew ?_ | refine Later.drewN ?_ _ | refine Later.alloc ?_ _ | refine Later.put ?_ (by omega) _ | refine Later.trans ?_ (by assumption))), by first | exact (HD.out.later hb5).drew | exact HD.out.later hb5, Hbd.out⟩
      case measure => simp [intOf]; omega
    · have H0 := Lib.hid (show rbestN zs lo (n + 1) = (sf, ⟨sx, sy⟩) by rw [← He.out, show k = n + 1 by omega])
      have D8r := D8.later (hb2.trans hb)
      have x0 : wr.cell? ⟨N, 0, none⟩ = some (.int .i64 0) := D8r.cell 0
      have x1 : wr.cell? ⟨N, 1, none⟩ = some (.int .i64 0) := D8r.cell 1
      have xf0 := D8r.frozen 0
      have xf1 := D8r.frozen 1
      have Hlw := Lib.hid (hlw1.trans (hb2.trans hb))
      cases sf
      · have HR := Lib.hid (show R = (⟨0, 0⟩, 18) by rw [Hin.out, H0.out]; rfl)
        go_wp2
        refine bodyPost_ret (v := .tuple #[.agg #[.int .i64 0, .int .i64 0], .int .i64 18]) (by simp [results, Try.results61, go_sem, x0, x1]) rfl ⟨by rw [HR.out], ?_⟩
        exact (Hlw.out.put (by have := HN.out; omega) _).put (by have := HN.out; omega) _
      · have HR := Lib.hid (show R = (⟨sx, sy⟩, 0) by rw [Hin.out, H0.out]; rfl)
        go_wp2
        refine bodyPost_ret (v := .tuple #[.agg #[.int .i64 sx, .int .i64 sy], .int .i64 0]) (by simp [results, Try.results61, go_sem, x0, x1, s0, s1]) rfl ⟨by rw [HR.out], ?_⟩
        exact (Hlw.out.put (by have := HN.out; omega) _).put (by have := HN.out; omega) _

theorem ref37_Best (Q : Option Addr) (qc : Nat) (len lo hi : Int) (polys : List (List Pt)) (w : World) (hps : Polys w Q polys) (hpl : ∀ p ∈ polys, p.length ≤ 1099511627776) :
    Calls Try.prog 61 #[.int .i64 len, .slice Q polys.length qc, .int .i64 lo, .int .i64 hi] w (Ret (.tuple #[.agg #[.int .i64 (BestR len polys lo hi).1.x, .int .i64 (BestR len polys lo hi).1.y], .int .i64 (BestR len polys lo hi).2]) w) := by
  rcases Classical.em ((extentsR len polys).2 = 0) with he | he
  · by_cases hr : lo < 0 ∨ hi < lo ∨ len < hi
    · rw [bestR_range he hr]
      exact ref37_Best_range Q qc len lo hi polys w hps hpl he hr
    · exact ref37_Best_in Q qc len lo hi polys w hps hpl he hr
  · rw [bestR_bad he]
    exact ref37_Best_err Q qc len lo hi polys w hps hpl he

end Go.Proofs.Ytehfpjlcbhimkaa

/- Reference 38: cloth, wide, begun, sound, End, joined, twice return what the program's twins return. -/
namespace Go.Proofs.Ytehfpjlcbhimkaa
open Go.RowKit
set_option linter.unusedSimpArgs false
set_option linter.unusedVariables false

set_option maxHeartbeats 1000000 in
theorem ref38_wide (n : Int) (w : World) : Calls Try.prog 60 #[.int .i64 n] w (Ret (.bool (decide (1 ≤ n) && decide (n ≤ 1048576))) w) := by
  go_enter Try.func60, Try.ntmps60
  by_cases h : 1 ≤ n
  · have d : decide (1 ≤ n) = true := by simpa using h
    have d' : decide (n ≥ 1) = true := by simpa using h
    rw [d]
    go_wp2
    go_ret
    exact ⟨rfl, Later.refl _⟩
  · have d : decide (1 ≤ n) = false := by simpa using h
    have d' : decide (n ≥ 1) = false := by simpa using h
    rw [d]
    go_wp2
    go_ret
    exact ⟨rfl, Later.refl _⟩

set_option maxHeartbeats 2000000 in
set_option maxRecDepth 100000 in
theorem ref38_sound (C : Option Addr) (cc : Nat) (p : Qd) (rs : List Rl) (w : World) (hr : Rolls w C rs) (hn : rs.length ≤ 65536) :
    Calls Try.prog 63 #[p.agg, .slice C rs.length cc] w (Ret (.bool (clothB p rs)) w) := by
  obtain ⟨a, b, c, d⟩ := p
  unfold Qd.agg clothB
  simp only []
  by_cases h1 : 0 ≤ a
  · have d1 : decide (0 ≤ a) = true := by simpa using h1
    by_cases h2 : a < (rs.length : Int)
    · have d2 : decide (a < (rs.length : Int)) = true := by simpa using h2
      by_cases h3 : 0 ≤ b
      · have d3 : decide (0 ≤ b) = true := by simpa using h3
        by_cases h4 : b < c
        · have d4 : decide (b < c) = true := by simpa using h4
          obtain ⟨n, rfl⟩ : ∃ n : Nat, a = (n : Int) := ⟨a.toNat, by omega⟩
          have hnl : n < rs.length := by omega
          have Hg := Lib.hid (grl_eq hnl)
          obtain ⟨bb, ob, rfl, e0, e1, e2, _⟩ := hr.at_ hnl
          have hbz : bb < w.heap.size := World.block_lt_of_cell? _ _ e0
          generalize rs[n] = r at *
          rw [d1, d2, d3, d4]
          have Hln := Lib.hid (show (grl rs (n : Int).toNat).ln = r.ln by rw [Int.toNat_natCast, Hg.out])
          rw [Hln.out]
          generalize r.ln = ln at *
          go_enter Try.func63, Try.ntmps63
          go_wp2
          go_quiet (fail)
          go_wp2
          go_ret
          exact ⟨rfl, (by repeat' (with_reducible first | exact Later.refl _ | assumption | refine Later.drew ?_ | refine Later.drewN ?_ _ | refine Later.alloc ?_ _ | refine Later.put ?_ (by omega) _ | refine Later.trans ?_ (by assumption)))⟩
        · have d4 : decide (b < c) = false := by simpa using h4
          rw [d1, d2, d3, d4]
          go_enter Try.func63, Try.ntmps63
          go_wp2
          go_quiet (fail)
          go_wp2
          go_ret
          exact ⟨rfl, (by repeat' (with_reducible first | exact Later.refl _ | assumption | refine Later.drew ?_ | refine Later.drewN ?_ _ | refine Later.alloc ?_ _ | refine Later.put ?_ (by omega) _ | refine Later.trans ?_ (by assumption)))⟩
      · have d3 : decide (0 ≤ b) = false := by simpa using h3
        rw [d1, d2, d3]
        go_enter Try.func63, Try.ntmps63
        go_wp2
        go_quiet (fail)
        go_wp2
        go_ret
        exact ⟨rfl, (by repeat' (with_reducible first | exact Later.refl _ | assumption | refine Later.drew ?_ | refine Later.drewN ?_ _ | refine Later.alloc ?_ _ | refine Later.put ?_ (by omega) _ | refine Later.trans ?_ (by assumption)))⟩
    · have d2 : decide (a < (rs.length : Int)) = false := by simpa using h2
      rw [d1, d2]
      go_enter Try.func63, Try.ntmps63
      go_wp2
      go_quiet (fail)
      go_wp2
      go_ret
      exact ⟨rfl, (by repeat' (with_reducible first | exact Later.refl _ | assumption | refine Later.drew ?_ | refine Later.drewN ?_ _ | refine Later.alloc ?_ _ | refine Later.put ?_ (by omega) _ | refine Later.trans ?_ (by assumption)))⟩
  · have d1 : decide (0 ≤ a) = false := by simpa using h1
    rw [d1]
    go_enter Try.func63, Try.ntmps63
    go_wp2
    go_quiet (fail)
    go_wp2
    go_ret
    exact ⟨rfl, (by repeat' (with_reducible first | exact Later.refl _ | assumption | refine Later.drew ?_ | refine Later.drewN ?_ _ | refine Later.alloc ?_ _ | refine Later.put ?_ (by omega) _ | refine Later.trans ?_ (by assumption)))⟩

set_option maxHeartbeats 2000000 in
theorem ref38_cloth (C L : Option Addr) (cc lc nl : Nat) (rs : List Rl) (w : World) (hr : Rolls w C rs) (hn : rs.length ≤ 1099511627776) (hnl : nl ≤ 9223372036854775807) :
    Calls Try.prog 59 #[.slice C rs.length cc, .slice L nl lc] w (Ret (.int .i64 (chkRollsR rs nl)) w) := by
  by_cases h20 : 20 < rs.length
  · have d20 : decide ((20 : Int) < (rs.length : Int)) = true := by simp; omega
    have H := Lib.hid (show chkRollsR rs nl = 5 by unfold chkRollsR; rw [if_pos h20])
    go_enter Try.func59, Try.ntmps59
    go_wp2
    go_ret
    exact ⟨ret_int H.out.symm, (by repeat' (with_reducible first | exact Later.refl _ | assumption | refine Later.drew ?_ | refine Later.drewN ?_ _ | refine Later.alloc ?_ _ | refine Later.put ?_ (by omega) _ | refine Later.trans ?_ (by assumption)))⟩
  have d20 : decide ((20 : Int) < (rs.length : Int)) = false := by simp; omega
  have h65 : rs.length ≤ 20 := by omega
  have H := Lib.hid (show chkRollsR rs nl = if rollsErr rs ≠ 0 then rollsErr rs else if nl ≠ rs.length then 1 else 0 by unfold chkRollsR; rw [if_neg h20])
  go_enter Try.func59, Try.ntmps59
  go_wp2
  go_loopw [5] (fun iv wr => ∃ k : Nat, k ≤ rs.length ∧ iv = .int .i64 k ∧ rollsErr rs = rollsErr (rs.drop k) ∧ Later w wr) (fun iv _ => rs.length - (intOf iv).toNat)
  case atStart => exact ⟨0, by omega, rfl, rfl, Later.refl _⟩
  case round =>
    obtain ⟨k, hk, rfl, he, hb⟩ := hrel
    have He := Lib.hid he
    clear he
    by_cases hlt : k < rs.length
    · obtain ⟨bb, ob, rfl, z0, z1, z2, z3, z4, z5, z6, zok⟩ := (hr.later hb).at_ hlt
      have hbz : bb < wr.heap.size := World.block_lt_of_cell? _ _ z0
      have Hd := Lib.hid (drop_cons' rs k hlt)
      generalize rs[k] = r at *
      have HK := Lib.hid (fun W (hW : Later wr W) => ref27_Check r W (zok.later hW))
      have Hbad := Lib.hid (fun l => rolls_bad (r := r) (l := l))
      have Hgood := Lib.hid (fun l => rolls_good (r := r) (l := l))
      generalize rollI r = er at *
      obtain ⟨rid, rwd, rln, rtl, rta, rtb, fa, fc, fl⟩ := r
      unfold Rl.agg at HK
      simp only [] at HK z0 z1 z2 z3 z4 z5 z6
      rcases Classical.em (er = 0) with h0 | h0
      · subst h0
        go_wp2_with (first | (go_at_call 81; (with_reducible refine (HK.out _ (by repeat' (with_reducible first | exact Later.refl _ | assumption | refine Later.drew ?_ | refine Later.drewN ?_ _ | refine Later.alloc ?_ _ | refine Later.put ?_ (by omega) _ | refine Later.trans ?_ (by assumption)))).mono ?_); rintro e w5 ⟨rfl, hb5⟩))
        go_roundw
        case rel => exact ⟨k + 1, by omega, by go_num, by rw [He.out, Hd.out, Hgood.out _ (by first | trivial | rfl)], (by repeat' (with_reducible first | exact Later.refl _ | assumption | refine Later.drew ?_ | refine Later.drewN ?_ _ | refine Later.alloc ?_ _ | refine Later.put ?_ (by omega) _ | refine Later.trans ?_ (by assumption)))⟩
        case measure => simp [intOf]; omega
      · have dn : (er != 0) = true := by simpa using h0
        go_wp2_with (first | (go_at_call 81; (with_reducible refine (HK.out _ (by repeat' (with_reducible first | exact Later.refl _ | assumption | refine Later.drew ?_ | refine Later.drewN ?_ _ | refine Later.alloc ?_ _ | refine Later.put ?_ (by omega) _ | refine Later.trans ?_ (by assumption)))).mono ?_); rintro e w5 ⟨rfl, hb5⟩))
        go_ret
        exact ⟨ret_int (by rw [H.out, He.out, Hd.out, Hbad.out _ h0, if_pos h0]), (by repeat' (with_reducible first | exact Later.refl _ | assumption | refine Later.drew ?_ | refine Later.drewN ?_ _ | refine Later.alloc ?_ _ | refine Later.put ?_ (by omega) _ | refine Later.trans ?_ (by assumption)))⟩
    · have H0 := Lib.hid (show rollsErr rs = 0 by rw [He.out, List.drop_eq_nil_of_le (by omega)]; rfl)
      by_cases hq : nl = rs.length
      · have HR := Lib.hid (show chkRollsR rs nl = 0 by rw [H.out, H0.out]; simp [hq])
        have dq : ((nl : Int) != (rs.length : Int)) = false := by simp [hq]
        have Hq := Lib.hid hq
        clear hq
        go_wp2
        go_ret
        exact ⟨ret_int HR.out.symm, hb⟩
      · have HR := Lib.hid (show chkRollsR rs nl = 1 by rw [H.out, H0.out]; simp [hq])
        have dq : ((nl : Int) != (rs.length : Int)) = true := by simp; omega
        go_wp2
        go_ret
        exact ⟨ret_int HR.out.symm, hb⟩

set_option maxHeartbeats 2000000 in
theorem ref38_begun (Q C L S1 S2 : Option Addr) (qc cc lc nl n1 c1 n2 c2 : Nat) (len wd rx ry : Int) (polys : List (List Pt)) (rs : List Rl) (w : World) (hps : Polys w Q polys) (hpl : ∀ p ∈ polys, p.length ≤ 1099511627776) (hr : Rolls w C rs) (hn : rs.length ≤ 1099511627776) (hnl : nl ≤ 9223372036854775807) :
    Calls Try.prog 39 #[.agg #[.int .i64 len, .int .i64 wd, .int .i64 rx, .int .i64 ry, .slice S1 n1 c1, .slice S2 n2 c2], .slice Q polys.length qc, .slice C rs.length cc, .slice L nl lc] w (Ret (.int .i64 (chkClothR len wd polys rs nl)) w) := by
  have HB := Lib.hid (fun W (hW : Later w W) => ref37_Back Q qc len 0 polys W (hps.later hW) hpl)
  have HK := Lib.hid (fun W (hW : Later w W) => ref38_cloth C L cc lc nl rs W (hr.later hW) hn hnl)
  have HW := Lib.hid (fun W => ref38_wide wd W)
  unfold chkClothR
  generalize BackR len polys 0 = B at *
  generalize chkRollsR rs nl = er at *
  obtain ⟨bv, be⟩ := B
  simp only [] at HB ⊢
  go_enter Try.func39, Try.ntmps39
  rcases Classical.em (be = 0) with h0 | h0
  · subst h0
    rcases Classical.em (er = 0) with h1 | h1
    · subst h1
      rcases hw : (decide (1 ≤ wd) && decide (wd ≤ 1048576)) with _ | _
      · rw [hw] at HW
        have Hw := Lib.hid (show wd < 1 ∨ 1048576 < wd by
          by_cases h : 1 ≤ wd
          · right
            simpa [h] using hw
          · left; omega)
        clear hw
        go_wp2_with (first | (go_at_call 58; (with_reducible refine (HB.out _ (by repeat' (with_reducible first | exact Later.refl _ | assumption | refine Later.drew ?_ | refine Later.drewN ?_ _ | refine Later.alloc ?_ _ | refine Later.put ?_ (by omega) _ | refine Later.trans ?_ (by assumption)))).mono ?_); rintro e w1 ⟨rfl, hb1⟩; have m1 : w1.cell? ⟨w.heap.size, 1, none⟩ = some (.int .i64 wd) := hb1.cell (by simp [go_sem]); have hl1 : Later w w1 := (by repeat' (with_reducible first | exact Later.refl _ | assumption | refine Later.drew ?_ | refine Later.drewN ?_ _ | refine Later.alloc ?_ _ | refine Later.put ?_ (by omega) _ | refine Later.trans ?_ (by assumption)))) | (go_at_call 59; (with_reducible refine (HK.out _ hl1).mono ?_); rintro e w2 ⟨rfl, hb2⟩; have m2 := hb2.cell m1) | (go_at_call 60; (with_reducible refine (HW.out _).mono ?_); rintro e w3 ⟨rfl, hb3⟩))
        go_ret
        exact ⟨ret_int (by first | rfl | (rw [if_neg (by simp), if_neg (by simp), if_pos Hw.out])), hl1.trans (hb2.trans hb3)⟩
      · rw [hw] at HW
        have Hw := Lib.hid (show ¬ (wd < 1 ∨ 1048576 < wd) by
          rw [Bool.and_eq_true, decide_eq_true_iff, decide_eq_true_iff] at hw
          omega)
        clear hw
        go_wp2_with (first | (go_at_call 58; (with_reducible refine (HB.out _ (by repeat' (with_reducible first | exact Later.refl _ | assumption | refine Later.drew ?_ | refine Later.drewN ?_ _ | refine Later.alloc ?_ _ | refine Later.put ?_ (by omega) _ | refine Later.trans ?_ (by assumption)))).mono ?_); rintro e w1 ⟨rfl, hb1⟩; have m1 : w1.cell? ⟨w.heap.size, 1, none⟩ = some (.int .i64 wd) := hb1.cell (by simp [go_sem]); have hl1 : Later w w1 := (by repeat' (with_reducible first | exact Later.refl _ | assumption | refine Later.drew ?_ | refine Later.drewN ?_ _ | refine Later.alloc ?_ _ | refine Later.put ?_ (by omega) _ | refine Later.trans ?_ (by assumption)))) | (go_at_call 59; (with_reducible refine (HK.out _ hl1).mono ?_); rintro e w2 ⟨rfl, hb2⟩; have m2 := hb2.cell m1) | (go_at_call 60; (with_reducible refine (HW.out _).mono ?_); rintro e w3 ⟨rfl, hb3⟩))
        go_ret
        exact ⟨ret_int (by first | rfl | (rw [if_neg (by simp), if_neg (by simp), if_neg Hw.out])), hl1.trans (hb2.trans hb3)⟩
    · have dn : (er != 0) = true := by simpa using h1
      go_wp2_with (first | (go_at_call 58; (with_reducible refine (HB.out _ (by repeat' (with_reducible first | exact Later.refl _ | assumption | refine Later.drew ?_ | refine Later.drewN ?_ _ | refine Later.alloc ?_ _ | refine Later.put ?_ (by omega) _ | refine Later.trans ?_ (by assumption)))).mono ?_); rintro e w1 ⟨rfl, hb1⟩; have hl1 : Later w w1 := (by repeat' (with_reducible first | exact Later.refl _ | assumption | refine Later.drew ?_ | refine Later.drewN ?_ _ | refine Later.alloc ?_ _ | refine Later.put ?_ (by omega) _ | refine Later.trans ?_ (by assumption)))) | (go_at_call 59; (with_reducible refine (HK.out _ hl1).mono ?_); rintro e w2 ⟨rfl, hb2⟩))
      go_ret
      exact ⟨ret_int (by simp [h1]), hl1.trans hb2⟩
  · have dn : (be != 0) = true := by simpa using h0
    go_wp2_with (first | (go_at_call 58; (with_reducible refine (HB.out _ (by repeat' (with_reducible first | exact Later.refl _ | assumption | refine Later.drew ?_ | refine Later.drewN ?_ _ | refine Later.alloc ?_ _ | refine Later.put ?_ (by omega) _ | refine Later.trans ?_ (by assumption)))).mono ?_); rintro e w1 ⟨rfl, hb1⟩))
    go_ret
    exact ⟨ret_int (by simp [h0]), (by repeat' (with_reducible first | exact Later.refl _ | assumption | refine Later.drew ?_ | refine Later.drewN ?_ _ | refine Later.alloc ?_ _ | refine Later.put ?_ (by omega) _ | refine Later.trans ?_ (by assumption)))⟩

/- Cloth that is used twice. -/
theorem clash_symm {p q : Qd} : Clash p q ↔ Clash q p := by
  unfold Clash
  constructor <;> (rintro ⟨a, b, c⟩; exact ⟨a.symm, c, b⟩)
theorem noTwice_take {l : List Qd} {k : Nat} (hk : k < l.length) : NoTwice (l.take (k + 1)) ↔ NoTwice (l.take k) ∧ ∀ j (hj : j < k), ¬ Clash l[k] (l[j]'(by omega)) := by
  rw [List.take_succ_eq_append_getElem hk]
  unfold NoTwice
  rw [List.pairwise_append]
  constructor
  · rintro ⟨a, _, c⟩
    refine ⟨a, fun j hj h => c (l[j]'(by omega)) ?_ _ (List.mem_singleton.2 rfl) (clash_symm.1 h)⟩
    rw [List.mem_take_iff_getElem]
    exact ⟨j, by omega, rfl⟩
  · rintro ⟨a, c⟩
    refine ⟨a, List.pairwise_singleton .., fun p hp q hq h => ?_⟩
    rw [List.mem_singleton.1 hq] at h
    rw [List.mem_take_iff_getElem] at hp
    obtain ⟨j, hj, rfl⟩ := hp
    exact c j (by omega) (clash_symm.1 h)
theorem noTwice_pre {l : List Qd} {k : Nat} (h : ¬ NoTwice (l.take k)) : ¬ NoTwice l := fun hN => h (hN.sublist (List.take_sublist _ _))
def twiceB (l : List Qd) : Bool := !decide (NoTwice l)
set_option maxHeartbeats 4000000 in
set_option maxRecDepth 100000 in
theorem ref38_twice (B : Option Addr) (cb : Nat) (l : List Qd) (w : World) (hB : Qds w B l) (hn : l.length ≤ 65536) :
    Calls Try.prog 64 #[.slice B l.length cb] w (Ret (.bool (twiceB l)) w) := by
  have Hyes := Lib.hid (show ∀ k, ¬ NoTwice (l.take k) → true = twiceB l from fun k h => by unfold twiceB; rw [decide_eq_false (noTwice_pre h)]; rfl)
  have Hno := Lib.hid (show NoTwice l → false = twiceB l from fun h => by unfold twiceB; rw [decide_eq_true h]; rfl)
  go_enter Try.func64, Try.ntmps64
  go_wp2
  go_loopw [3] (fun iv wr => ∃ k : Nat, k ≤ l.length ∧ iv = .int .i64 k ∧ NoTwice (l.take k) ∧ Later w wr) (fun iv _ => l.length - (intOf iv).toNat)
  case atStart => exact ⟨0, by omega, rfl, by rw [List.take_zero]; exact List.Pairwise.nil, Later.refl _⟩
  case round =>
    obtain ⟨k, hk, rfl, he, hb⟩ := hrel
    have He := Lib.hid he
    clear he
    by_cases hlt : k < l.length
    · have Hst := Lib.hid (noTwice_take hlt)
      have hk0 : (0 : Int) ≤ (k : Int) := by omega
      have hk1 : (k : Int) < (l.length : Int) := by omega
      obtain ⟨wo, hwo⟩ : ∃ wo : World, wo = wr := ⟨_, rfl⟩
      rw [← hwo]
      rw [← hwo] at hb
      clear hwo
      go_upto_region 5 with fail
      go_loopw [4] (fun jv wq => ∃ j : Nat, j ≤ k ∧ jv = .int .i64 j ∧ (∀ i (hi : i < j) (hi2 : i < l.length), ¬ Clash l[k] l[i]) ∧ Later wo wq) (fun jv _ => k - (intOf jv).toNat)
      case atStart => exact ⟨0, by omega, rfl, (fun i hi => by omega), Later.refl _⟩
      case round =>
        obtain ⟨j, hj, rfl, hc, hbj⟩ := hrel
        have Hc := Lib.hid hc
        clear hc
        by_cases hjl : j < k
        · have hjl2 : j < l.length := by omega
          obtain ⟨b, o, rfl, hx⟩ := ((hB.later hb).later hbj) (by omega)
          obtain ⟨x0, x1, x2, x3⟩ := hx.get hlt
          obtain ⟨y0, y1, y2, y3⟩ := hx.get hjl2
          have Hcl := Lib.hid (show Clash l[k] l[j] → ¬ NoTwice (l.take (k + 1)) from fun h h2 => (Hst.out.1 h2).2 j hjl h)
          have Hcn := Lib.hid (show ¬ Clash l[k] l[j] → ∀ i (hi : i < j + 1) (hi2 : i < l.length), ¬ Clash l[k] l[i] from fun h i hi hi2 => by
            by_cases e : i = j
            · subst e; exact h
            · exact Hc.out i (by omega) hi2)
          have hj0 : (0 : Int) ≤ (j : Int) := by omega
          have hj1 : (j : Int) < (l.length : Int) := by omega
          generalize l[k] = p at *
          generalize l[j] = q at *
          obtain ⟨pa, pb, pc, pd⟩ := p
          obtain ⟨qa, qb, qc, qd⟩ := q
          unfold Clash at Hcl
          simp only [] at x0 x1 x2 x3 y0 y1 y2 y3 Hcl
          have zb := World.block_lt_of_cell? _ _ x0
          by_cases h1 : pa = qa
          · have e1 : (pa == qa) = true := by simpa using h1
            by_cases h2 : pb < qc
            · have e2 : decide (pb < qc) = true := by simpa using h2
              by_cases h3 : qb < pc
              · have e3 : decide (qb < pc) = true := by simpa using h3
                have HR := Lib.hid (Hyes.out _ (Hcl.out ⟨h1, h2, h3⟩))
                clear h1
                go_wp2
                go_quiet (fail)
                go_wp2
                go_ret
                exact ⟨ret_bool HR.out, hb.trans (hbj.trans (by repeat' (with_reducible first | exact Later.refl _ | assumption | refine Later.drew ?_ | refine Later.drewN ?_ _ | refine Later.alloc ?_ _ | refine Later.put ?_ (by omega) _ | refine Later.trans ?_ (by assumption))))⟩
              · have e3 : decide (qb < pc) = false := by simpa using h3
                have HR := Lib.hid (Hcn.out (by rintro ⟨_, _, h⟩; exact h3 h))
                clear h1
                go_wp2
                go_quiet (fail)
                go_wp2
                go_roundw
                case rel => exact ⟨j + 1, by omega, by go_num, HR.out, hbj.trans (by repeat' (with_reducible first | exact Later.refl _ | assumption | refine Later.drew ?_ | refine Later.drewN ?_ _ | refine Later.alloc ?_ _ | refine Later.put ?_ (by omega) _ | refine Later.trans ?_ (by assumption)))⟩
                case measure => simp [intOf]; omega
            · have e2 : decide (pb < qc) = false := by simpa using h2
              have HR := Lib.hid (Hcn.out (by rintro ⟨_, h, _⟩; exact h2 h))
              clear h1
              go_wp2
              go_quiet (fail)
              go_wp2
              go_roundw
              case rel => exact ⟨j + 1, by omega, by go_num, HR.out, hbj.trans (by repeat' (with_reducible first | exact Later.refl _ | assumption | refine Later.drew ?_ | refine Later.drewN ?_ _ | refine Later.alloc ?_ _ | refine Later.put ?_ (by omega) _ | refine Later.trans ?_ (by assumption)))⟩
              case measure => simp [intOf]; omega
          · have e1 : (pa == qa) = false := by simpa using h1
            have HR := Lib.hid (Hcn.out (by rintro ⟨h, _, _⟩; exact h1 h))
            clear h1
            go_wp2
            go_quiet (fail)
            go_wp2
            go_roundw
            case rel => exact ⟨j + 1, by omega, by go_num, HR.out, hbj.trans (by repeat' (with_reducible first | exact Later.refl _ | assumption | refine Later.drew ?_ | refine Later.drewN ?_ _ | refine Later.alloc ?_ _ | refine Later.put ?_ (by omega) _ | refine Later.trans ?_ (by assumption)))⟩
            case measure => simp [intOf]; omega
        · have HR := Lib.hid (Hst.out.2 ⟨He.out, fun i hi => Hc.out i (by omega) (by omega)⟩)
          go_wp2
          go_roundw
          case rel => exact ⟨k + 1, by omega, by go_num, HR.out, hb.trans hbj⟩
          case measure => simp [intOf]; omega
    · have HR := Lib.hid (Hno.out (by rw [← List.take_of_length_le (show l.length ≤ k by omega)]; exact He.out))
      go_wp2
      go_ret
      exact ⟨ret_bool HR.out, hb⟩

end Go.Proofs.Ytehfpjlcbhimkaa
