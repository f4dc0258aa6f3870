/-
 Reference 37: common, zones, back, Back, Best return what the program's splice returns.
 Reference 37: Best returns what the program's Best returns.
 Reference 38: cloth, wide, begun, sound, End, joined, twice return what the program's twins return.
-/
import Derived.Test.YtdhakoecjmaebaaGreatZSprP
import Derived.Test.YtdhakoecjmaebaaGreatZSprQ
import Derived.Test.YtdhakoecjmaebaaGreatZRCar
import Derived.Test.YtdhakoecjmaebaaGreatZSimEq
import Derived.Test.YtdhakoecjmaebaaGreatZSprW
import Derived.Test.YtdhakoecjmaebaaGreatZRefP
namespace Go.Proofs.YtdhakoecjmaebaaGreat
open Go.RowKit
set_option linter.unusedSimpArgs false
set_option linter.unusedVariables false
theorem ref11_Box_ok' (A : Option Addr) (c : Nat) (ps : List Pt) (w : World) (hn : ps.length ≤ 1099511627776) (hcap : ps.length ≤ c) (hp : Pts w A ps) (hok : checkI ps = 0) :
  Calls Tryz.prog 179 #[.slice A ps.length c] w (Ret (.tuple #[.agg #[.int .i64 (loOf ps).x, .int .i64 (loOf ps).y, .int .i64 ((hiOf ps).x - (loOf ps).x), .int .i64 ((hiOf ps).y - (loOf ps).y)], .int .i64 0]) w) :=
 ref11_Box_ok A c ps w hn hcap hp (by rw [rcheck_eq]; exact hok)
theorem ref11_Box_err' (A : Option Addr) (c : Nat) (ps : List Pt) (w : World) (hn : ps.length ≤ 1099511627776) (hcap : ps.length ≤ c) (hp : Pts w A ps) (hok : checkI ps ≠ 0) :
  Calls Tryz.prog 179 #[.slice A ps.length c] w (Ret (.tuple #[.agg #[.int .i64 0, .int .i64 0, .int .i64 0, .int .i64 0], .int .i64 (checkI ps)]) w) := by
 have := ref11_Box_err A c ps w hn hcap hp (by rw [rcheck_eq]; exact hok)
 rw [rcheck_eq] at this
 exact this
set_option maxHeartbeats 4000000 in
set_option maxRecDepth 100000 in
theorem ref37_common (Q : Option Addr) (qc : Nat) (len : Int) (polys : List (List Pt)) (w : World) (hps : Polys w Q polys) (hpl : ∀ p ∈ polys, p.length ≤ 1099511627776) :
  Calls Tryz.prog 170 #[.int .i64 len, .slice Q polys.length qc] w (Ret (.int .i64 (extentsR len polys).2) w) := by
 go_enter Tryz.func170, Tryz.ntmps170
 by_cases h1 : len < 1
 ·have d1 : decide (len < 1) = true := by simpa using h1
  have H := Lib.hid (ext_range (polys := polys) (.inl h1))
  go_wp2
  go_ret
  exact ⟨ret_int (by rw [H.out] <;> rfl), Later.refl _⟩
 have d1 : decide (len < 1) = false := by simpa using h1
 by_cases h2 : 1048576 < len
 ·have d2 : decide (1048576 < len) = true := by simpa using h2
  have H := Lib.hid (ext_range (polys := polys) (.inr h2))
  go_wp2
  go_ret
  exact ⟨ret_int (by rw [H.out] <;> rfl), Later.refl _⟩
 have d2 : decide (1048576 < len) = false := by simpa using h2
 by_cases h3 : 60 < polys.length
 ·have d3 : decide ((60 : Int) < (polys.length : Int)) = true := by simp; omega
  have H := Lib.hid (ext_long (len := len) (by omega) h3)
  go_wp2
  go_ret
  exact ⟨ret_int (by rw [H.out] <;> rfl), Later.refl _⟩
 have d3 : decide ((60 : Int) < (polys.length : Int)) = false := by simp; omega
 have H := Lib.hid (ext_go (len := len) (polys := polys) (by omega) h3)
 have h60 : polys.length ≤ 60 := by omega
 go_wp2
 clear d1 d2 d3
 go_loopw [5] (fun iv wr => ∃ (k : Nat) (acc : List Pt), k ≤ polys.length ∧ iv = .int .i64 k ∧ extGoZ len polys [] = extGoZ len (polys.drop k) acc ∧ Later w wr) (fun iv _ => polys.length - (intOf iv).toNat)
 case atStart => exact ⟨0, [], by omega, rfl, rfl, Later.refl _⟩
 case round =>
  obtain ⟨k, acc, hk, rfl, he, hb⟩ := hrel
  have He := Lib.hid he
  clear he
  by_cases hlt : k < polys.length
  ·obtain ⟨bq, oq, A', c', rfl, k1, k2, k3⟩ := (hps.later hb).at_ hlt
   have Hd := Lib.hid (drop_cons' polys k hlt)
   have hpn := hpl _ (List.getElem_mem hlt)
   generalize polys[k] = ps at *
   have hbz : bq < wr.heap.size := World.block_lt_of_cell? _ _ k1
   rcases Classical.em (checkI ps = 0) with hc | hc
   ·have HB := Lib.hid (fun W (hW : Later wr W) => ref11_Box_ok' A' c' ps W hpn k2 (k3.later hW) hc)
    have hsm := lo_sm (small_of_check hc)
    have Hok := Lib.hid (fun l (acc : List Pt) h => extgo_ok (len := len) (l := l) (acc := acc) hc h)
    have Hout := Lib.hid (fun l (acc : List Pt) h => extgo_out (len := len) (l := l) (acc := acc) hc h)
    clear hc
    generalize loOf ps = lo at *
    generalize hiOf ps = hi at *
    obtain ⟨lx, ly⟩ := lo
    obtain ⟨hx, hy⟩ := hi
    obtain ⟨⟨s1, s2⟩, ⟨s3, s4⟩⟩ := hsm
    unfold Sm at s1 s2 s3 s4
    simp only [] at s1 s2 s3 s4 HB Hok Hout
    by_cases hx0 : lx < 0
    ·have dx0 : decide (lx < 0) = true := by simpa using hx0
     go_wp2_with (first | (go_at_call 179; (with_reducible refine (HB.out _ (Later.refl _)).mono ?_); rintro e w5 ⟨rfl, hb5⟩))
     go_ret
     exact ⟨ret_int (by rw [H.out, He.out, Hd.out, Hout.out _ _ (.inl hx0)] <;> rfl), (by repeat' (with_reducible first | exact .refl _ | assumption | refine .drew ?_ | refine .drewN ?_ _ | refine .alloc ?_ _ | refine .put ?_ (by omega) _ | refine .trans ?_ (by assumption)))⟩
    ·have dx0 : decide (lx < 0) = false := by simpa using hx0
     by_cases hx1 : len < hx
     ·have dx1 : decide (len < lx + (hx - lx)) = true := by simp; omega
      go_wp2_with (first | (go_at_call 179; (with_reducible refine (HB.out _ (Later.refl _)).mono ?_); rintro e w5 ⟨rfl, hb5⟩))
      go_ret
      exact ⟨ret_int (by rw [H.out, He.out, Hd.out, Hout.out _ _ (.inr hx1)] <;> rfl), (by repeat' (with_reducible first | exact .refl _ | assumption | refine .drew ?_ | refine .drewN ?_ _ | refine .alloc ?_ _ | refine .put ?_ (by omega) _ | refine .trans ?_ (by assumption)))⟩
     ·have dx1 : decide (len < lx + (hx - lx)) = false := by simp; omega
      go_wp2_with (first | (go_at_call 179; (with_reducible refine (HB.out _ (Later.refl _)).mono ?_); rintro e w5 ⟨rfl, hb5⟩))
      go_roundw
      case rel => exact ⟨k + 1, acc ++ [⟨lx, hx⟩], by omega, by go_num, by rw [He.out, Hd.out, Hok.out _ _ (by omega)], (by repeat' (with_reducible first | exact .refl _ | assumption | refine .drew ?_ | refine .drewN ?_ _ | refine .alloc ?_ _ | refine .put ?_ (by omega) _ | refine .trans ?_ (by assumption)))⟩
      case measure => simp [intOf]; omega
   ·have HB := Lib.hid (fun W (hW : Later wr W) => ref11_Box_err' A' c' ps W hpn k2 (k3.later hW) hc)
    have Hbad := Lib.hid (fun l (acc : List Pt) => extgo_bad (len := len) (l := l) (acc := acc) hc)
    have hne : (checkI ps != 0) = true := by simpa using hc
    have Hc := Lib.hid hc
    clear hc
    generalize checkI ps = er at *
    go_wp2_with (first | (go_at_call 179; (with_reducible refine (HB.out _ (Later.refl _)).mono ?_); rintro e w5 ⟨rfl, hb5⟩))
    go_ret
    exact ⟨ret_int (by rw [H.out, He.out, Hd.out, Hbad.out] <;> rfl), (by repeat' (with_reducible first | exact .refl _ | assumption | refine .drew ?_ | refine .drewN ?_ _ | refine .alloc ?_ _ | refine .put ?_ (by omega) _ | refine .trans ?_ (by assumption)))⟩
  ·have H0 := Lib.hid (show extentsR len polys = (acc, 0) by rw [H.out, He.out, List.drop_eq_nil_of_le (by omega)]; rfl)
   go_wp2
   go_ret
   exact ⟨ret_int (by rw [H0.out]), hb⟩
def ZonesPost (zs : List Pt) (w : World) (e : Ending) (w' : World) : Prop := ∃ A c, e = .returned (.slice A zs.length c) ∧ zs.length ≤ c ∧ c ≤ maxLen ∧ Pts w' A zs ∧ Later w w'
def zoneOf (p : List Pt) : Pt := ⟨(loOf p).x, (hiOf p).x⟩
set_option maxHeartbeats 4000000 in
set_option maxRecDepth 100000 in
theorem ref37_zones (Q : Option Addr) (qc : Nat) (polys : List (List Pt)) (w : World) (hps : Polys w Q polys) (hpl : ∀ p ∈ polys, p.length ≤ 1099511627776) (h60 : polys.length ≤ 60) (hck : ∀ p ∈ polys, checkI p = 0) :
  Calls Tryz.prog 172 #[.slice Q polys.length qc] w (ZonesPost (polys.map zoneOf) w) := by
 have Hck := Lib.hid hck
 clear hck
 go_enter Tryz.func172, Tryz.ntmps172
 go_wp2
 go_loopw [3, 4] (fun v iv wr => ∃ (k : Nat) (acc : List Pt), k ≤ polys.length ∧ iv = .int .i64 k ∧ acc = (polys.take k).map zoneOf ∧ OwnR wr w.heap.size 190 2 pt2 v acc ∧ Later w wr) (fun _ iv _ => polys.length - (intOf iv).toNat)
 case atStart => exact ⟨0, [], by omega, rfl, rfl, World.ownsRow_nil _ _ _ _, Later.refl _⟩
 case round =>
  obtain ⟨k, acc, hk, rfl, he, ho, hb⟩ := hrel
  have He := Lib.hid he
  have Ho := Lib.hid ho
  have Hacl := Lib.hid (show acc.length ≤ 60 by rw [he]; simp; omega)
  clear he ho
  by_cases hlt : k < polys.length
  ·obtain ⟨bq, oq, A', c', rfl, k1, k2, k3⟩ := (hps.later hb).at_ hlt
   have Htk := Lib.hid (show polys.take (k + 1) = polys.take k ++ [polys[k]] from List.take_succ_eq_append_getElem hlt)
   have hpn := hpl _ (List.getElem_mem hlt)
   have hc := Hck.out _ (List.getElem_mem hlt)
   have Hpk := Lib.hid (rfl : zoneOf polys[k] = zoneOf polys[k])
   generalize hpk : polys[k] = ps at *
   clear hpk
   have hbz : bq < wr.heap.size := World.block_lt_of_cell? _ _ k1
   have HB := Lib.hid (fun W (hW : Later wr W) => ref11_Box_ok' A' c' ps W hpn k2 (k3.later hW) hc)
   have hsm := lo_sm (small_of_check hc)
   clear hc
   have Hz := Lib.hid (show zoneOf ps = ⟨(loOf ps).x, (hiOf ps).x⟩ from rfl)
   generalize loOf ps = lo at *
   generalize hiOf ps = hi at *
   obtain ⟨lx, ly⟩ := lo
   obtain ⟨hx, hy⟩ := hi
   obtain ⟨⟨s1, s2⟩, ⟨s3, s4⟩⟩ := hsm
   unfold Sm at s1 s2 s3 s4
   simp only [] at s1 s2 s3 s4 HB Hz
   go_upto_region 6 with (first | (go_at_call 179; (with_reducible refine (HB.out _ (Later.refl _)).mono ?_); rintro e w5 ⟨rfl, hb5⟩))
   refine name_world (fun W9 hW9 => ?_)
   have hl9 : Later wr W9 := by rw [hW9]; exact (by repeat' (with_reducible first | exact .refl _ | assumption | refine .drew ?_ | refine .drewN ?_ _ | refine .alloc ?_ _ | refine .put ?_ (by omega) _ | refine .trans ?_ (by assumption)))
   have z0 : W9.cell? ⟨w5.heap.size, 0, none⟩ = some (.int .i64 lx) := by rw [hW9]; simp [go_sem]
   have z2 : W9.cell? ⟨w5.heap.size, 2, none⟩ = some (.int .i64 (hx - lx)) := by rw [hW9]; simp [go_sem]
   have hgz : w5.heap.size < W9.heap.size := World.block_lt_of_cell? _ _ z0
   clear hW9
   generalize w5.heap.size = g9 at *
   have HS := Lib.hid (SrcAt.blk (Blk.new W9 190 #[.int .i64 lx, .int .i64 (lx + (hx - lx))]))
   have Hsum := Lib.hid (show lx + (hx - lx) = hx by omega)
   go_wp2_with (at_builtin; refine wpList_append_rec slt_zone pt2_len pt2_one rfl (.tmp 21) (.tmp 30) rfl (base := w.heap.size) (l := acc) rfl (OwnR.alloc (Ho.out.later hl9) _) (A := some ⟨W9.heap.size, 0, none⟩) (c := 1) [⟨lx, lx + (hx - lx)⟩] rfl (by intro h; cases h) HS.out (by have := Hacl.out; simp; omega) (by have := hb.size; have := hl9.size; simp; omega) ?_; intro A3 c3' w3 ho3 hg3)
   have hl3 : Later w w3 := Later.grown ((hb.trans hl9).alloc _) hg3 (fun g hg => (World.ownsRow.lt Ho.out g hg).1)
   clear hg3
   have Ho3 := Lib.hid ho3
   clear ho3
   simp only [List.length_append, List.length_singleton] at Ho3
   go_roundw
   case rel => exact ⟨k + 1, acc ++ [⟨lx, lx + (hx - lx)⟩], by omega, by go_num, by rw [Htk.out, List.map_append, ← He.out, List.map_singleton, Hz.out, Hsum.out], Ho3.out, hl3⟩
   case measure => simp [intOf]; omega
  ·have H0 := Lib.hid (show acc = polys.map zoneOf by rw [He.out, List.take_of_length_le (by omega)])
   obtain ⟨A6, c6, e6, p1, p2, p3⟩ := Ho.out.zns
   subst e6
   go_wp2
   go_ret
   exact ⟨A6, c6, by rw [← H0.out] <;> rfl, by rw [← H0.out]; exact p1, p2, by rw [← H0.out]; exact p3, hb⟩
attribute [local go_sem] ite_min ite_max
set_option maxHeartbeats 2000000 in
theorem ref37_back (B : Option Addr) (cb : Nat) (zs : List Pt) (hi : Int) (w : World) (hz : Pts w B zs) (hn : zs.length ≤ 65536) :
  Calls Tryz.prog 171 #[.slice B zs.length cb, .int .i64 hi] w (Ret (.int .i64 (backR zs hi)) w) := by
 go_enter Tryz.func171, Tryz.ntmps171
 go_wp2
 go_loopw [5, 6] (fun v iv wr => ∃ (k : Nat) (lo : Int), k ≤ zs.length ∧ iv = .int .i64 k ∧ v = .int .i64 lo ∧ backR zs hi = (zs.drop k).foldl (fun lo z => if hi < z.y then min lo z.x else lo) lo ∧ Later w wr) (fun _ iv _ => zs.length - (intOf iv).toNat)
 case atStart => exact ⟨0, hi, by omega, rfl, rfl, rfl, Later.refl _⟩
 case round =>
  obtain ⟨k, lo, hk, rfl, rfl, he, hb⟩ := hrel
  have He := Lib.hid he
  clear he
  by_cases hlt : k < zs.length
  ·obtain ⟨b, o, rfl, e1, e2⟩ := (hz.later hb).at_ hlt
   have hbz : b < wr.heap.size := World.block_lt_of_cell? _ _ e1
   have Hd := Lib.hid (drop_cons' zs k hlt)
   generalize zs[k] = z at *
   obtain ⟨zx, zy⟩ := z
   simp only [] at e1 e2
   by_cases h1 : hi < zy
   ·have Hs := Lib.hid (show (if hi < zy then min lo zx else lo) = min lo zx by rw [if_pos h1])
    go_wp2
    go_roundw
    case rel => exact ⟨k + 1, _, by omega, by go_num, rfl, by rw [He.out, Hd.out, back_step, Hs.out], (by repeat' (with_reducible first | exact .refl _ | assumption | refine .drew ?_ | refine .drewN ?_ _ | refine .alloc ?_ _ | refine .put ?_ (by omega) _ | refine .trans ?_ (by assumption)))⟩
    case measure => simp [intOf]; omega
   ·have Hs := Lib.hid (show (if hi < zy then min lo zx else lo) = lo by rw [if_neg h1])
    go_wp2
    go_roundw
    case rel => exact ⟨k + 1, _, by omega, by go_num, rfl, by rw [He.out, Hd.out, back_step, Hs.out], (by repeat' (with_reducible first | exact .refl _ | assumption | refine .drew ?_ | refine .drewN ?_ _ | refine .alloc ?_ _ | refine .put ?_ (by omega) _ | refine .trans ?_ (by assumption)))⟩
    case measure => simp [intOf]; omega
  ·go_wp2
   go_ret
   exact ⟨ret_int (by rw [He.out, List.drop_eq_nil_of_le (by omega)]; rfl), hb⟩
theorem zones_of {len : Int} {polys : List (List Pt)} (h : (extentsR len polys).2 = 0) : (extentsR len polys).1 = polys.map zoneOf ∧ (∀ p ∈ polys, checkI p = 0) ∧ polys.length ≤ 60 := by
 obtain ⟨a, b⟩ := ext_zones h
 exact ⟨a, fun p hp => (b p hp).1, (ext_zero h).2.2.1⟩
set_option maxHeartbeats 2000000 in
theorem ref37_Back (Q : Option Addr) (qc : Nat) (len hi : Int) (polys : List (List Pt)) (w : World) (hps : Polys w Q polys) (hpl : ∀ p ∈ polys, p.length ≤ 1099511627776) :
  Calls Tryz.prog 124 #[.int .i64 len, .slice Q polys.length qc, .int .i64 hi] w (Ret (.tuple #[.int .i64 (BackR len polys hi).1, .int .i64 (BackR len polys hi).2]) w) := by
 have HE := Lib.hid (ref37_common Q qc len polys w hps hpl)
 have HZ := Lib.hid (fun (h : (extentsR len polys).2 = 0) W (hW : Later w W) => ref37_zones Q qc polys W (hps.later hW) hpl (zones_of h).2.2 (zones_of h).2.1)
 have Hze := Lib.hid (fun (h : (extentsR len polys).2 = 0) => (zones_of h).1)
 have Hzl := Lib.hid (fun (h : (extentsR len polys).2 = 0) => (zones_of h).2.2)
 have Hbad := Lib.hid (backR_bad (len := len) (polys := polys) (hi := hi))
 have Hrg := Lib.hid (backR_range (len := len) (polys := polys) (hi := hi))
 have Hin := Lib.hid (backR_in (len := len) (polys := polys) (hi := hi))
 generalize extentsR len polys = E at *
 generalize BackR len polys hi = R at *
 obtain ⟨zs, er⟩ := E
 simp only [] at *
 rcases Classical.em (er = 0) with h0 | h0
 ·subst h0
  have hzs := Hze.out rfl
  have hzl : zs.length ≤ 60 := by rw [hzs, List.length_map]; exact Hzl.out rfl
  have HZ2 := Lib.hid (HZ.out rfl)
  rw [← hzs] at HZ2
  clear HZ Hze Hzl hzs
  by_cases h1 : hi < 0
  ·have d1 : decide (hi < 0) = true := by simpa using h1
   have Hr := Lib.hid (Hrg.out rfl (.inl h1))
   go_enter Tryz.func124, Tryz.ntmps124
   go_wp2_with (first | (go_at_call 170; (with_reducible refine HE.out.mono ?_); rintro e w1 ⟨rfl, hb1⟩))
   go_ret2
   exact ⟨by rw [Hr.out]; rfl, hb1⟩
  ·have d1 : decide (hi < 0) = false := by simpa using h1
   by_cases h2 : len < hi
   ·have d2 : decide (len < hi) = true := by simpa using h2
    have Hr := Lib.hid (Hrg.out rfl (.inr h2))
    go_enter Tryz.func124, Tryz.ntmps124
    go_wp2_with (first | (go_at_call 170; (with_reducible refine HE.out.mono ?_); rintro e w1 ⟨rfl, hb1⟩))
    go_ret2
    exact ⟨by rw [Hr.out]; rfl, hb1⟩
   ·have d2 : decide (len < hi) = false := by simpa using h2
    have Hr := Lib.hid (Hin.out rfl (by omega))
    go_enter Tryz.func124, Tryz.ntmps124
    go_wp2_with (first | (go_at_call 170; (with_reducible refine HE.out.mono ?_); rintro e w1 ⟨rfl, hb1⟩) | (go_at_call 172; (with_reducible refine (HZ2.out _ (by repeat' (with_reducible first | exact .refl _ | assumption | refine .drew ?_ | refine .drewN ?_ _ | refine .alloc ?_ _ | refine .put ?_ (by omega) _ | refine .trans ?_ (by assumption)))).mono ?_); rintro e w2 ⟨A2, c2, rfl, p1, p2, p3, hb2⟩) | (go_at_call 171; (with_reducible refine (ref37_back A2 c2 zs hi _ p3 (by omega)).mono ?_); rintro e w3 ⟨rfl, hb3⟩))
    go_ret2
    exact ⟨by rw [Hr.out]; rfl, (by repeat' (with_reducible first | exact .refl _ | assumption | refine .drew ?_ | refine .drewN ?_ _ | refine .alloc ?_ _ | refine .put ?_ (by omega) _ | refine .trans ?_ (by assumption)))⟩
 ·have dn : (er != 0) = true := by simpa using h0
  have Hr := Lib.hid (Hbad.out h0)
  go_enter Tryz.func124, Tryz.ntmps124
  go_wp2_with (first | (go_at_call 170; (with_reducible refine HE.out.mono ?_); rintro e w1 ⟨rfl, hb1⟩))
  go_ret2
  exact ⟨by rw [Hr.out]; rfl, hb1⟩
end Go.Proofs.YtdhakoecjmaebaaGreat
namespace Go.Proofs.YtdhakoecjmaebaaGreat
open Go.RowKit
set_option linter.unusedSimpArgs false
set_option linter.unusedVariables false
end Go.Proofs.YtdhakoecjmaebaaGreat
namespace Go.Proofs.YtdhakoecjmaebaaGreat
open Go.RowKit
set_option linter.unusedSimpArgs false
set_option linter.unusedVariables false
set_option maxHeartbeats 1000000 in
theorem ref38_wide (n : Int) (w : World) : Calls Tryz.prog 126 #[.int .i64 n] w (Ret (.bool (decide (1 ≤ n) && decide (n ≤ 1048576))) w) := by
 go_enter Tryz.func126, Tryz.ntmps126
 by_cases h : 1 ≤ n
 ·have d : decide (1 ≤ n) = true := by simpa using h
  have d' : decide (n ≥ 1) = true := by simpa using h
  rw [d]
  go_wp2
  go_ret
  exact ⟨rfl, Later.refl _⟩
 ·have d : decide (1 ≤ n) = false := by simpa using h
  have d' : decide (n ≥ 1) = false := by simpa using h
  rw [d]
  go_wp2
  go_ret
  exact ⟨rfl, Later.refl _⟩
set_option maxHeartbeats 1000000 in
theorem ref38_End (p : Qd) (w : World) (h : QdM p) : Calls Tryz.prog 45 #[p.agg] w (Ret (.int .i64 (endQ p)) w) := by
 obtain ⟨a, b, c, d⟩ := p
 unfold QdM at h
 unfold Qd.agg endQ
 simp only [] at h ⊢
 go_enter Tryz.func45, Tryz.ntmps45
 go_wp2
 go_ret
 exact ⟨rfl, (by repeat' (with_reducible first | exact .refl _ | assumption | refine .drew ?_ | refine .drewN ?_ _ | refine .alloc ?_ _ | refine .put ?_ (by omega) _ | refine .trans ?_ (by assumption)))⟩
set_option maxHeartbeats 2000000 in
set_option maxRecDepth 100000 in
theorem ref38_sound (C : Option Addr) (cc : Nat) (p : Qd) (rs : List Rl) (w : World) (hr : Rolls w C rs) (hn : rs.length ≤ 65536) :
  Calls Tryz.prog 127 #[p.agg, .slice C rs.length cc] w (Ret (.bool (clothB p rs)) w) := by
 obtain ⟨a, b, c, d⟩ := p
 unfold Qd.agg clothB
 simp only []
 by_cases h1 : 0 ≤ a
 ·have d1 : decide (0 ≤ a) = true := by simpa using h1
  by_cases h2 : a < (rs.length : Int)
  ·have d2 : decide (a < (rs.length : Int)) = true := by simpa using h2
   by_cases h3 : 0 ≤ b
   ·have d3 : decide (0 ≤ b) = true := by simpa using h3
    by_cases h4 : b < c
    ·have d4 : decide (b < c) = true := by simpa using h4
     obtain ⟨n, rfl⟩ : ∃ n : Nat, a = (n : Int) := ⟨a.toNat, by omega⟩
     have hnl : n < rs.length := by omega
     have Hg := Lib.hid (grl_eq hnl)
     obtain ⟨bb, ob, rfl, e0, e1, e2, _⟩ := hr.at_ hnl
     have hbz : bb < w.heap.size := World.block_lt_of_cell? _ _ e0
     generalize rs[n] = r at *
     rw [d1, d2, d3, d4]
     have Hln := Lib.hid (show (grl rs (n : Int).toNat).ln = r.ln by rw [Int.toNat_natCast, Hg.out])
     rw [Hln.out]
     generalize r.ln = ln at *
     go_enter Tryz.func127, Tryz.ntmps127
     go_wp2
     go_quiet (fail)
     go_wp2
     go_ret
     exact ⟨rfl, (by repeat' (with_reducible first | exact .refl _ | assumption | refine .drew ?_ | refine .drewN ?_ _ | refine .alloc ?_ _ | refine .put ?_ (by omega) _ | refine .trans ?_ (by assumption)))⟩
    ·have d4 : decide (b < c) = false := by simpa using h4
     rw [d1, d2, d3, d4]
     go_enter Tryz.func127, Tryz.ntmps127
     go_wp2
     go_quiet (fail)
     go_wp2
     go_ret
     exact ⟨rfl, (by repeat' (with_reducible first | exact .refl _ | assumption | refine .drew ?_ | refine .drewN ?_ _ | refine .alloc ?_ _ | refine .put ?_ (by omega) _ | refine .trans ?_ (by assumption)))⟩
   ·have d3 : decide (0 ≤ b) = false := by simpa using h3
    rw [d1, d2, d3]
    go_enter Tryz.func127, Tryz.ntmps127
    go_wp2
    go_quiet (fail)
    go_wp2
    go_ret
    exact ⟨rfl, (by repeat' (with_reducible first | exact .refl _ | assumption | refine .drew ?_ | refine .drewN ?_ _ | refine .alloc ?_ _ | refine .put ?_ (by omega) _ | refine .trans ?_ (by assumption)))⟩
  ·have d2 : decide (a < (rs.length : Int)) = false := by simpa using h2
   rw [d1, d2]
   go_enter Tryz.func127, Tryz.ntmps127
   go_wp2
   go_quiet (fail)
   go_wp2
   go_ret
   exact ⟨rfl, (by repeat' (with_reducible first | exact .refl _ | assumption | refine .drew ?_ | refine .drewN ?_ _ | refine .alloc ?_ _ | refine .put ?_ (by omega) _ | refine .trans ?_ (by assumption)))⟩
 ·have d1 : decide (0 ≤ a) = false := by simpa using h1
  rw [d1]
  go_enter Tryz.func127, Tryz.ntmps127
  go_wp2
  go_quiet (fail)
  go_wp2
  go_ret
  exact ⟨rfl, (by repeat' (with_reducible first | exact .refl _ | assumption | refine .drew ?_ | refine .drewN ?_ _ | refine .alloc ?_ _ | refine .put ?_ (by omega) _ | refine .trans ?_ (by assumption)))⟩
set_option maxHeartbeats 2000000 in
theorem ref38_cloth (C L : Option Addr) (cc lc nl : Nat) (rs : List Rl) (w : World) (hr : Rolls w C rs) (hn : rs.length ≤ 1099511627776) (hnl : nl ≤ 9223372036854775807) :
  Calls Tryz.prog 125 #[.slice C rs.length cc, .slice L nl lc] w (Ret (.int .i64 (chkRollsR rs nl)) w) := by
 by_cases h20 : 20 < rs.length
 ·have d20 : decide ((20 : Int) < (rs.length : Int)) = true := by simp; omega
  have H := Lib.hid (show chkRollsR rs nl = 5 by unfold chkRollsR; rw [if_pos h20])
  go_enter Tryz.func125, Tryz.ntmps125
  go_wp2
  go_ret
  exact ⟨ret_int H.out.symm, (by repeat' (with_reducible first | exact .refl _ | assumption | refine .drew ?_ | refine .drewN ?_ _ | refine .alloc ?_ _ | refine .put ?_ (by omega) _ | refine .trans ?_ (by assumption)))⟩
 have d20 : decide ((20 : Int) < (rs.length : Int)) = false := by simp; omega
 have h65 : rs.length ≤ 20 := by omega
 have H := Lib.hid (show chkRollsR rs nl = if rollsErr rs ≠ 0 then rollsErr rs else if nl ≠ rs.length then 1 else 0 by unfold chkRollsR; rw [if_neg h20])
 go_enter Tryz.func125, Tryz.ntmps125
 go_wp2
 go_loopw [5] (fun iv wr => ∃ k : Nat, k ≤ rs.length ∧ iv = .int .i64 k ∧ rollsErr rs = rollsErr (rs.drop k) ∧ Later w wr) (fun iv _ => rs.length - (intOf iv).toNat)
 case atStart => exact ⟨0, by omega, rfl, rfl, Later.refl _⟩
 case round =>
  obtain ⟨k, hk, rfl, he, hb⟩ := hrel
  have He := Lib.hid he
  clear he
  by_cases hlt : k < rs.length
  ·obtain ⟨bb, ob, rfl, z0, z1, z2, z3, z4, z5, z6, zok⟩ := (hr.later hb).at_ hlt
   have hbz : bb < wr.heap.size := World.block_lt_of_cell? _ _ z0
   have Hd := Lib.hid (drop_cons' rs k hlt)
   generalize rs[k] = r at *
   have HK := Lib.hid (fun W (hW : Later wr W) => ref27_Check r W (zok.later hW))
   have Hbad := Lib.hid (fun l => rolls_bad (r := r) (l := l))
   have Hgood := Lib.hid (fun l => rolls_good (r := r) (l := l))
   generalize rollI r = er at *
   obtain ⟨rid, rwd, rln, rtl, rta, rtb, fa, fc, fl⟩ := r
   unfold Rl.agg at HK
   simp only [] at HK z0 z1 z2 z3 z4 z5 z6
   rcases Classical.em (er = 0) with h0 | h0
   ·subst h0
    go_wp2_with (first | (go_at_call 133; (with_reducible refine (HK.out _ (by repeat' (with_reducible first | exact .refl _ | assumption | refine .drew ?_ | refine .drewN ?_ _ | refine .alloc ?_ _ | refine .put ?_ (by omega) _ | refine .trans ?_ (by assumption)))).mono ?_); rintro e w5 ⟨rfl, hb5⟩))
    go_roundw
    case rel => exact ⟨k + 1, by omega, by go_num, by rw [He.out, Hd.out, Hgood.out _ (by first | trivial | rfl)], (by repeat' (with_reducible first | exact .refl _ | assumption | refine .drew ?_ | refine .drewN ?_ _ | refine .alloc ?_ _ | refine .put ?_ (by omega) _ | refine .trans ?_ (by assumption)))⟩
    case measure => simp [intOf]; omega
   ·have dn : (er != 0) = true := by simpa using h0
    go_wp2_with (first | (go_at_call 133; (with_reducible refine (HK.out _ (by repeat' (with_reducible first | exact .refl _ | assumption | refine .drew ?_ | refine .drewN ?_ _ | refine .alloc ?_ _ | refine .put ?_ (by omega) _ | refine .trans ?_ (by assumption)))).mono ?_); rintro e w5 ⟨rfl, hb5⟩))
    go_ret
    exact ⟨ret_int (by rw [H.out, He.out, Hd.out, Hbad.out _ h0, if_pos h0]), (by repeat' (with_reducible first | exact .refl _ | assumption | refine .drew ?_ | refine .drewN ?_ _ | refine .alloc ?_ _ | refine .put ?_ (by omega) _ | refine .trans ?_ (by assumption)))⟩
  ·have H0 := Lib.hid (show rollsErr rs = 0 by rw [He.out, List.drop_eq_nil_of_le (by omega)]; rfl)
   by_cases hq : nl = rs.length
   ·have HR := Lib.hid (show chkRollsR rs nl = 0 by rw [H.out, H0.out]; simp [hq])
    have dq : ((nl : Int) != (rs.length : Int)) = false := by simp [hq]
    have Hq := Lib.hid hq
    clear hq
    go_wp2
    go_ret
    exact ⟨ret_int HR.out.symm, hb⟩
   ·have HR := Lib.hid (show chkRollsR rs nl = 1 by rw [H.out, H0.out]; simp [hq])
    have dq : ((nl : Int) != (rs.length : Int)) = true := by simp; omega
    go_wp2
    go_ret
    exact ⟨ret_int HR.out.symm, hb⟩
set_option maxHeartbeats 2000000 in
theorem ref38_begun (Q C L S1 S2 : Option Addr) (qc cc lc nl n1 c1 n2 c2 : Nat) (len wd rx ry : Int) (polys : List (List Pt)) (rs : List Rl) (w : World) (hps : Polys w Q polys) (hpl : ∀ p ∈ polys, p.length ≤ 1099511627776) (hr : Rolls w C rs) (hn : rs.length ≤ 1099511627776) (hnl : nl ≤ 9223372036854775807) :
  Calls Tryz.prog 80 #[.agg #[.int .i64 len, .int .i64 wd, .int .i64 rx, .int .i64 ry, .slice S1 n1 c1, .slice S2 n2 c2], .slice Q polys.length qc, .slice C rs.length cc, .slice L nl lc] w (Ret (.int .i64 (chkClothR len wd polys rs nl)) w) := by
 have HB := Lib.hid (fun W (hW : Later w W) => ref37_Back Q qc len 0 polys W (hps.later hW) hpl)
 have HK := Lib.hid (fun W (hW : Later w W) => ref38_cloth C L cc lc nl rs W (hr.later hW) hn hnl)
 have HW := Lib.hid (fun W => ref38_wide wd W)
 unfold chkClothR
 generalize BackR len polys 0 = B at *
 generalize chkRollsR rs nl = er at *
 obtain ⟨bv, be⟩ := B
 simp only [] at HB ⊢
 go_enter Tryz.func80, Tryz.ntmps80
 rcases Classical.em (be = 0) with h0 | h0
 ·subst h0
  rcases Classical.em (er = 0) with h1 | h1
  ·subst h1
   rcases hw : (decide (1 ≤ wd) && decide (wd ≤ 1048576)) with _ | _
   ·rw [hw] at HW
    have Hw := Lib.hid (show wd < 1 ∨ 1048576 < wd by
     by_cases h : 1 ≤ wd
     ·right
      simpa [h] using hw
     ·left; omega)
    clear hw
    go_wp2_with (first | (go_at_call 124; (with_reducible refine (HB.out _ (by repeat' (with_reducible first | exact .refl _ | assumption | refine .drew ?_ | refine .drewN ?_ _ | refine .alloc ?_ _ | refine .put ?_ (by omega) _ | refine .trans ?_ (by assumption)))).mono ?_); rintro e w1 ⟨rfl, hb1⟩; have m1 : w1.cell? ⟨w.heap.size, 1, none⟩ = some (.int .i64 wd) := hb1.cell (by simp [go_sem]); have hl1 : Later w w1 := (by repeat' (with_reducible first | exact .refl _ | assumption | refine .drew ?_ | refine .drewN ?_ _ | refine .alloc ?_ _ | refine .put ?_ (by omega) _ | refine .trans ?_ (by assumption)))) | (go_at_call 125; (with_reducible refine (HK.out _ hl1).mono ?_); rintro e w2 ⟨rfl, hb2⟩; have m2 := hb2.cell m1) | (go_at_call 126; (with_reducible refine (HW.out _).mono ?_); rintro e w3 ⟨rfl, hb3⟩))
    go_ret
    exact ⟨ret_int (by first | rfl | (rw [if_neg (by simp), if_neg (by simp), if_pos Hw.out])), hl1.trans (hb2.trans hb3)⟩
   ·rw [hw] at HW
    have Hw := Lib.hid (show ¬ (wd < 1 ∨ 1048576 < wd) by
     rw [Bool.and_eq_true, decide_eq_true_iff, decide_eq_true_iff] at hw
     omega)
    clear hw
    go_wp2_with (first | (go_at_call 124; (with_reducible refine (HB.out _ (by repeat' (with_reducible first | exact .refl _ | assumption | refine .drew ?_ | refine .drewN ?_ _ | refine .alloc ?_ _ | refine .put ?_ (by omega) _ | refine .trans ?_ (by assumption)))).mono ?_); rintro e w1 ⟨rfl, hb1⟩; have m1 : w1.cell? ⟨w.heap.size, 1, none⟩ = some (.int .i64 wd) := hb1.cell (by simp [go_sem]); have hl1 : Later w w1 := (by repeat' (with_reducible first | exact .refl _ | assumption | refine .drew ?_ | refine .drewN ?_ _ | refine .alloc ?_ _ | refine .put ?_ (by omega) _ | refine .trans ?_ (by assumption)))) | (go_at_call 125; (with_reducible refine (HK.out _ hl1).mono ?_); rintro e w2 ⟨rfl, hb2⟩; have m2 := hb2.cell m1) | (go_at_call 126; (with_reducible refine (HW.out _).mono ?_); rintro e w3 ⟨rfl, hb3⟩))
    go_ret
    exact ⟨ret_int (by first | rfl | (rw [if_neg (by simp), if_neg (by simp), if_neg Hw.out])), hl1.trans (hb2.trans hb3)⟩
  ·have dn : (er != 0) = true := by simpa using h1
   go_wp2_with (first | (go_at_call 124; (with_reducible refine (HB.out _ (by repeat' (with_reducible first | exact .refl _ | assumption | refine .drew ?_ | refine .drewN ?_ _ | refine .alloc ?_ _ | refine .put ?_ (by omega) _ | refine .trans ?_ (by assumption)))).mono ?_); rintro e w1 ⟨rfl, hb1⟩; have hl1 : Later w w1 := (by repeat' (with_reducible first | exact .refl _ | assumption | refine .drew ?_ | refine .drewN ?_ _ | refine .alloc ?_ _ | refine .put ?_ (by omega) _ | refine .trans ?_ (by assumption)))) | (go_at_call 125; (with_reducible refine (HK.out _ hl1).mono ?_); rintro e w2 ⟨rfl, hb2⟩))
   go_ret
   exact ⟨ret_int (by simp [h1]), hl1.trans hb2⟩
 ·have dn : (be != 0) = true := by simpa using h0
  go_wp2_with (first | (go_at_call 124; (with_reducible refine (HB.out _ (by repeat' (with_reducible first | exact .refl _ | assumption | refine .drew ?_ | refine .drewN ?_ _ | refine .alloc ?_ _ | refine .put ?_ (by omega) _ | refine .trans ?_ (by assumption)))).mono ?_); rintro e w1 ⟨rfl, hb1⟩))
  go_ret
  exact ⟨ret_int (by simp [h0]), (by repeat' (with_reducible first | exact .refl _ | assumption | refine .drew ?_ | refine .drewN ?_ _ | refine .alloc ?_ _ | refine .put ?_ (by omega) _ | refine .trans ?_ (by assumption)))⟩
set_option maxHeartbeats 4000000 in
set_option maxRecDepth 100000 in
theorem ref38_joined (Q : Option Addr) (qc : Nat) (len : Int) (polys : List (List Pt)) (p q : Qd) (w : World) (hps : Polys w Q polys) (hpl : ∀ p ∈ polys, p.length ≤ 1099511627776) (hp : QdM p) :
  Calls Tryz.prog 128 #[.int .i64 len, .slice Q polys.length qc, p.agg, q.agg] w (Ret (.bool (joinsB len polys p q)) w) := by
 have HB := Lib.hid (fun W (hW : Later w W) => ref37_Back Q qc len (endQ p) polys W (hps.later hW) hpl)
 have HE := Lib.hid (fun W => ref38_End p W hp)
 have Hj := Lib.hid (show joinsB len polys p q = if q.d ≤ p.d ∨ endQ p < q.d then false else (BackR len polys (endQ p)).2 == 0 && decide (q.d ≤ (BackR len polys (endQ p)).1) from rfl)
 generalize joinsB len polys p q = jv at *
 generalize endQ p = ep at *
 generalize BackR len polys ep = B at *
 obtain ⟨bv, be⟩ := B
 obtain ⟨pa, pb, pc, pd⟩ := p
 obtain ⟨qa, qb, qc', qd⟩ := q
 unfold Qd.agg at HE ⊢
 simp only [] at HE HB Hj ⊢
 clear hp
 by_cases h1 : qd ≤ pd
 ·have d1 : decide (qd ≤ pd) = true := by simpa using h1
  have Hv := Lib.hid (show jv = false by rw [Hj.out, if_pos (.inl h1)])
  go_enter Tryz.func128, Tryz.ntmps128
  go_wp2
  go_quiet (fail)
  go_wp2
  go_ret
  exact ⟨ret_bool Hv.out.symm, (by repeat' (with_reducible first | exact .refl _ | assumption | refine .drew ?_ | refine .drewN ?_ _ | refine .alloc ?_ _ | refine .put ?_ (by omega) _ | refine .trans ?_ (by assumption)))⟩
 have d1 : decide (qd ≤ pd) = false := by simpa using h1
 go_enter Tryz.func128, Tryz.ntmps128
 go_upto_region 1 with fail
 refine name_world (fun W2 hW2 => ?_)
 have hl2 : Later w W2 := by rw [hW2]; exact (by repeat' (with_reducible first | exact .refl _ | assumption | refine .drew ?_ | refine .drewN ?_ _ | refine .alloc ?_ _ | refine .put ?_ (by omega) _ | refine .trans ?_ (by assumption)))
 have D6 : Blk W2 w.heap.size 92 #[.int .i64 pa, .int .i64 pb, .int .i64 pc, .int .i64 pd] := by rw [hW2]; exact (by repeat' (with_reducible first | assumption | (refine Blk.newAt ?_; simp; done) | refine Blk.alloc ?_ _ | refine Blk.drew ?_ | refine Blk.drewN ?_ _ | refine Blk.later ?_ (by assumption)))
 have D7 : Blk W2 (w.heap.size + 1) 92 #[.int .i64 qa, .int .i64 qb, .int .i64 qc', .int .i64 qd] := by rw [hW2]; exact (by repeat' (with_reducible first | assumption | (refine Blk.newAt ?_; simp; done) | refine Blk.alloc ?_ _ | refine Blk.drew ?_ | refine Blk.drewN ?_ _ | refine Blk.later ?_ (by assumption)))
 clear hW2
 generalize w.heap.size = g6 at *
 have p0 : W2.cell? ⟨g6, 0, none⟩ = some (.int .i64 pa) := D6.cell 0
 have p1 : W2.cell? ⟨g6, 1, none⟩ = some (.int .i64 pb) := D6.cell 1
 have p2 : W2.cell? ⟨g6, 2, none⟩ = some (.int .i64 pc) := D6.cell 2
 have p3 : W2.cell? ⟨g6, 3, none⟩ = some (.int .i64 pd) := D6.cell 3
 have q3 : W2.cell? ⟨g6 + 1, 3, none⟩ = some (.int .i64 qd) := D7.cell 3
 have z6 := D6.lt
 have z7 := D7.lt
 by_cases h2 : ep < qd
 ·have d2 : decide (ep < qd) = true := by simpa using h2
  have Hv := Lib.hid (show jv = false by rw [Hj.out, if_pos (.inr h2)])
  go_region_held3 (fun w' : World => (∀ a : Addr, (W2.cell? a).isSome = true → w'.cell? a = W2.cell? a) ∧ Later W2 w') (first | assumption | exact keep_call (by assumption) (by assumption) | exact keep_call (by assumption) ((Later.refl _).alloc _) | exact keep_init _ | exact ⟨Later.keeps (by assumption), by assumption⟩) (first | (go_at_call 45; (with_reducible refine (HE.out _).mono ?_); rintro e w1 ⟨rfl, hb1⟩))
  all_goals
   rename_i hHw
   go_wp2
   go_ret
   exact ⟨ret_bool Hv.out.symm, hl2.trans hHw.2⟩
 have d2 : decide (ep < qd) = false := by simpa using h2
 go_region_held3 (fun w' : World => (∀ a : Addr, (W2.cell? a).isSome = true → w'.cell? a = W2.cell? a) ∧ Later W2 w') (first | assumption | exact keep_call (by assumption) (by assumption) | exact keep_call (by assumption) ((Later.refl _).alloc _) | exact keep_init _ | exact ⟨Later.keeps (by assumption), by assumption⟩) (first | (go_at_call 45; (with_reducible refine (HE.out _).mono ?_); rintro e w1 ⟨rfl, hb1⟩))
 rename_i hHw
 have hl1 : Later W2 w1 := hHw.2
 have p0 := hl1.cell p0
 have p1 := hl1.cell p1
 have p2 := hl1.cell p2
 have p3 := hl1.cell p3
 have q3 := hl1.cell q3
 have Hv := Lib.hid (show jv = (be == 0 && decide (qd ≤ bv)) by rw [Hj.out, if_neg (by omega)])
 have z6 : g6 < w1.heap.size := World.block_lt_of_cell? _ _ p0
 have z7 : g6 + 1 < w1.heap.size := World.block_lt_of_cell? _ _ q3
 clear hHw
 rcases Classical.em (be = 0) with h0 | h0
 ·subst h0
  go_wp2_with (first | (go_at_call 45; (with_reducible refine (HE.out _).mono ?_); rintro e w2 ⟨rfl, hb2⟩; have q4 := hb2.cell q3; have hl3 : Later w w2 := hl2.trans (hl1.trans hb2)) | (go_at_call 124; (with_reducible refine (HB.out _ hl3).mono ?_); rintro e w3 ⟨rfl, hb3⟩; have q5 := hb3.cell q4))
  go_ret
  exact ⟨ret_bool (by rw [Hv.out]; rfl), hl3.trans hb3⟩
 ·have dn : (be == 0) = false := by simpa using h0
  go_wp2_with (first | (go_at_call 45; (with_reducible refine (HE.out _).mono ?_); rintro e w2 ⟨rfl, hb2⟩; have q4 := hb2.cell q3; have hl3 : Later w w2 := hl2.trans (hl1.trans hb2)) | (go_at_call 124; (with_reducible refine (HB.out _ hl3).mono ?_); rintro e w3 ⟨rfl, hb3⟩; have q5 := hb3.cell q4))
  go_ret
  exact ⟨ret_bool (by rw [Hv.out, dn]; rfl), hl3.trans hb3⟩
theorem clash_symm {p q : Qd} : Clash p q ↔ Clash q p := by
 unfold Clash
 constructor <;> (rintro ⟨a, b, c⟩; exact ⟨a.symm, c, b⟩)
theorem noTwice_take {l : List Qd} {k : Nat} (hk : k < l.length) : NoTwice (l.take (k + 1)) ↔ NoTwice (l.take k) ∧ ∀ j (hj : j < k), ¬ Clash l[k] (l[j]'(by omega)) := by
 rw [List.take_succ_eq_append_getElem hk]
 unfold NoTwice
 rw [List.pairwise_append]
 constructor
 ·rintro ⟨a, _, c⟩
  refine ⟨a, fun j hj h => c (l[j]'(by omega)) ?_ _ (List.mem_singleton.2 rfl) (clash_symm.1 h)⟩
  rw [List.mem_take_iff_getElem]
  exact ⟨j, by omega, rfl⟩
 ·rintro ⟨a, c⟩
  refine ⟨a, List.pairwise_singleton .., fun p hp q hq h => ?_⟩
  rw [List.mem_singleton.1 hq] at h
  rw [List.mem_take_iff_getElem] at hp
  obtain ⟨j, hj, rfl⟩ := hp
  exact c j (by omega) (clash_symm.1 h)
theorem noTwice_pre {l : List Qd} {k : Nat} (h : ¬ NoTwice (l.take k)) : ¬ NoTwice l := fun hN => h (hN.sublist (List.take_sublist _ _))
def twiceB (l : List Qd) : Bool := !decide (NoTwice l)
set_option maxHeartbeats 4000000 in
set_option maxRecDepth 100000 in
theorem ref38_twice (B : Option Addr) (cb : Nat) (l : List Qd) (w : World) (hB : Qds w B l) (hn : l.length ≤ 65536) :
  Calls Tryz.prog 82 #[.slice B l.length cb] w (Ret (.bool (twiceB l)) w) := by
 have Hyes := Lib.hid (show ∀ k, ¬ NoTwice (l.take k) → true = twiceB l from fun k h => by unfold twiceB; rw [decide_eq_false (noTwice_pre h)]; rfl)
 have Hno := Lib.hid (show NoTwice l → false = twiceB l from fun h => by unfold twiceB; rw [decide_eq_true h]; rfl)
 go_enter Tryz.func82, Tryz.ntmps82
 go_wp2
 go_loopw [3] (fun iv wr => ∃ k : Nat, k ≤ l.length ∧ iv = .int .i64 k ∧ NoTwice (l.take k) ∧ Later w wr) (fun iv _ => l.length - (intOf iv).toNat)
 case atStart => exact ⟨0, by omega, rfl, by rw [List.take_zero]; exact List.Pairwise.nil, Later.refl _⟩
 case round =>
  obtain ⟨k, hk, rfl, he, hb⟩ := hrel
  have He := Lib.hid he
  clear he
  by_cases hlt : k < l.length
  ·have Hst := Lib.hid (noTwice_take hlt)
   have hk0 : (0 : Int) ≤ (k : Int) := by omega
   have hk1 : (k : Int) < (l.length : Int) := by omega
   obtain ⟨wo, hwo⟩ : ∃ wo : World, wo = wr := ⟨_, rfl⟩
   rw [← hwo]
   rw [← hwo] at hb
   clear hwo
   go_upto_region 5 with fail
   go_loopw [4] (fun jv wq => ∃ j : Nat, j ≤ k ∧ jv = .int .i64 j ∧ (∀ i (hi : i < j) (hi2 : i < l.length), ¬ Clash l[k] l[i]) ∧ Later wo wq) (fun jv _ => k - (intOf jv).toNat)
   case atStart => exact ⟨0, by omega, rfl, (fun i hi => by omega), Later.refl _⟩
   case round =>
    obtain ⟨j, hj, rfl, hc, hbj⟩ := hrel
    have Hc := Lib.hid hc
    clear hc
    by_cases hjl : j < k
    ·have hjl2 : j < l.length := by omega
     obtain ⟨b, o, rfl, hx⟩ := ((hB.later hb).later hbj) (by omega)
     obtain ⟨x0, x1, x2, x3⟩ := hx.get hlt
     obtain ⟨y0, y1, y2, y3⟩ := hx.get hjl2
     have Hcl := Lib.hid (show Clash l[k] l[j] → ¬ NoTwice (l.take (k + 1)) from fun h h2 => (Hst.out.1 h2).2 j hjl h)
     have Hcn := Lib.hid (show ¬ Clash l[k] l[j] → ∀ i (hi : i < j + 1) (hi2 : i < l.length), ¬ Clash l[k] l[i] from fun h i hi hi2 => by
      by_cases e : i = j
      ·subst e; exact h
      ·exact Hc.out i (by omega) hi2)
     have hj0 : (0 : Int) ≤ (j : Int) := by omega
     have hj1 : (j : Int) < (l.length : Int) := by omega
     generalize l[k] = p at *
     generalize l[j] = q at *
     obtain ⟨pa, pb, pc, pd⟩ := p
     obtain ⟨qa, qb, qc, qd⟩ := q
     unfold Clash at Hcl
     simp only [] at x0 x1 x2 x3 y0 y1 y2 y3 Hcl
     have zb := World.block_lt_of_cell? _ _ x0
     by_cases h1 : pa = qa
     ·have e1 : (pa == qa) = true := by simpa using h1
      by_cases h2 : pb < qc
      ·have e2 : decide (pb < qc) = true := by simpa using h2
       by_cases h3 : qb < pc
       ·have e3 : decide (qb < pc) = true := by simpa using h3
        have HR := Lib.hid (Hyes.out _ (Hcl.out ⟨h1, h2, h3⟩))
        clear h1
        go_wp2
        go_quiet (fail)
        go_wp2
        go_ret
        exact ⟨ret_bool HR.out, hb.trans (hbj.trans (by repeat' (with_reducible first | exact .refl _ | assumption | refine .drew ?_ | refine .drewN ?_ _ | refine .alloc ?_ _ | refine .put ?_ (by omega) _ | refine .trans ?_ (by assumption))))⟩
       ·have e3 : decide (qb < pc) = false := by simpa using h3
        have HR := Lib.hid (Hcn.out (by rintro ⟨_, _, h⟩; exact h3 h))
        clear h1
        go_wp2
        go_quiet (fail)
        go_wp2
        go_roundw
        case rel => exact ⟨j + 1, by omega, by go_num, HR.out, hbj.trans (by repeat' (with_reducible first | exact .refl _ | assumption | refine .drew ?_ | refine .drewN ?_ _ | refine .alloc ?_ _ | refine .put ?_ (by omega) _ | refine .trans ?_ (by assumption)))⟩
        case measure => simp [intOf]; omega
      ·have e2 : decide (pb < qc) = false := by simpa using h2
       have HR := Lib.hid (Hcn.out (by rintro ⟨_, h, _⟩; exact h2 h))
       clear h1
       go_wp2
       go_quiet (fail)
       go_wp2
       go_roundw
       case rel => exact ⟨j + 1, by omega, by go_num, HR.out, hbj.trans (by repeat' (with_reducible first | exact .refl _ | assumption | refine .drew ?_ | refine .drewN ?_ _ | refine .alloc ?_ _ | refine .put ?_ (by omega) _ | refine .trans ?_ (by assumption)))⟩
       case measure => simp [intOf]; omega
     ·have e1 : (pa == qa) = false := by simpa using h1
      have HR := Lib.hid (Hcn.out (by rintro ⟨h, _, _⟩; exact h1 h))
      clear h1
      go_wp2
      go_quiet (fail)
      go_wp2
      go_roundw
      case rel => exact ⟨j + 1, by omega, by go_num, HR.out, hbj.trans (by repeat' (with_reducible first | exact .refl _ | assumption | refine .drew ?_ | refine .drewN ?_ _ | refine .alloc ?_ _ | refine .put ?_ (by omega) _ | refine .trans ?_ (by assumption)))⟩
      case measure => simp [intOf]; omega
    ·have HR := Lib.hid (Hst.out.2 ⟨He.out, fun i hi => Hc.out i (by omega) (by omega)⟩)
     go_wp2
     go_roundw
     case rel => exact ⟨k + 1, by omega, by go_num, HR.out, hb.trans hbj⟩
     case measure => simp [intOf]; omega
  ·have HR := Lib.hid (Hno.out (by rw [← List.take_of_length_le (show l.length ≤ k by omega)]; exact He.out))
   go_wp2
   go_ret
   exact ⟨ret_bool HR.out, hb⟩
end Go.Proofs.YtdhakoecjmaebaaGreat
