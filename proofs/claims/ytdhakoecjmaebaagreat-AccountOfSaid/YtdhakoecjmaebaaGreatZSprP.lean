/-
 The walks of splice: extents, back, Back, Best.
-/
import Derived.Test.YtdhakoecjmaebaaGreatZSplP
import Derived.Test.YtdhakoecjmaebaaGreatZRefN
import Derived.Test.YtdhakoecjmaebaaGreatZDTab
import Derived.Deep.DeepCutAuto
import Derived.Test.YtdhakoecjmaebaaGreatZRoll
namespace Go.Proofs.YtdhakoecjmaebaaGreat
open Go.RowKit
set_option linter.unusedSimpArgs false
set_option linter.unusedVariables false
def ZPost (r : List Pt × Int) (w : World) (e : Ending) (w' : World) : Prop :=
 (r.2 = 0 ∧ ∃ A c, e = .returned (.tuple #[.slice A r.1.length c, .int .i64 0]) ∧ r.1.length ≤ c ∧ c ≤ maxLen ∧ Pts w' A r.1 ∧ Later w w') ∨
 (r.2 ≠ 0 ∧ e = .returned (.tuple #[.slice none 0 0, .int .i64 r.2]) ∧ Later w w')
theorem slt_zone : SlT Tryz.prog 188 190 2 := SlT.mk (z := .agg #[.int .i64 0, .int .i64 0]) (by_ := 16) Tryz.underlying188 (by kernel_rfl) (by omega) rfl (by omega)
theorem OwnR.zns {w : World} {base : Nat} {E : TypeId} {v : Value} {l : List Pt} (h : OwnR w base E 2 pt2 v l) : ∃ A c, v = .slice A l.length c ∧ l.length ≤ c ∧ c ≤ maxLen ∧ Pts w A l := by
 obtain ⟨A, c, e, h1, h2, h3⟩ := h.form pt2_len
 refine ⟨A, c, e, h1, h2, fun hn => ?_⟩
 obtain ⟨g, rfl, _, _, _, hx⟩ := h3 hn
 refine ⟨g, 0, rfl, fun i p hp => ⟨hx i p hp 0 _ rfl, hx i p hp 1 _ rfl⟩⟩
def i1 (n : Int) : List Value := [.int .i64 n]
theorem i1_len (n : Int) : (i1 n).length = 1 := rfl
def Ints (w : World) (A : Option Addr) (l : List Int) : Prop := 0 < l.length → ∃ b o, A = some ⟨b, o, none⟩ ∧ ∀ i n, l[i]? = some n → w.cell? ⟨b, o + i, none⟩ = some (.int .i64 n)
theorem Ints.later {w w' : World} {A : Option Addr} {l : List Int} (h : Ints w A l) (k : Later w w') : Ints w' A l :=
 fun hn => let ⟨b, o, e, hc⟩ := h hn; ⟨b, o, e, fun i n hi => k.cell (hc i n hi)⟩
theorem Ints.at_ {w : World} {A : Option Addr} {l : List Int} (h : Ints w A l) {k : Nat} (hk : k < l.length) : ∃ b o, A = some ⟨b, o, none⟩ ∧ w.cell? ⟨b, o + k, none⟩ = some (.int .i64 l[k]) := by
 obtain ⟨b, o, e, hc⟩ := h (by omega)
 exact ⟨b, o, e, hc k _ (List.getElem?_eq_getElem hk)⟩
theorem OwnR.ints {w : World} {base : Nat} {E : TypeId} {v : Value} {l : List Int} (h : OwnR w base E 1 i1 v l) : ∃ A c, v = .slice A l.length c ∧ l.length ≤ c ∧ c ≤ maxLen ∧ Ints w A l := by
 obtain ⟨A, c, e, h1, h2, h3⟩ := h.form i1_len
 refine ⟨A, c, e, h1, h2, fun hn => ?_⟩
 obtain ⟨g, rfl, _, _, _, hx⟩ := h3 hn
 refine ⟨g, 0, rfl, fun i p hp => ?_⟩
 have := hx i p hp 0 _ rfl
 simpa using this
theorem ext_range {len : Int} {polys : List (List Pt)} (h : len < 1 ∨ 1048576 < len) : extentsR len polys = ([], 3) := by unfold extentsR; rw [if_pos h]
theorem ext_long {len : Int} {polys : List (List Pt)} (h : ¬ (len < 1 ∨ 1048576 < len)) (h2 : 60 < polys.length) : extentsR len polys = ([], 5) := by unfold extentsR; rw [if_neg h, if_pos h2]
theorem ext_go {len : Int} {polys : List (List Pt)} (h : ¬ (len < 1 ∨ 1048576 < len)) (h2 : ¬ 60 < polys.length) : extentsR len polys = extGoZ len polys [] := by unfold extentsR; rw [if_neg h, if_neg h2]
theorem extgo_bad {len : Int} {p : List Pt} {l : List (List Pt)} {acc : List Pt} (h : checkI p ≠ 0) : extGoZ len (p :: l) acc = ([], checkI p) := by rw [extGoZ, if_pos h]
theorem extgo_out {len : Int} {p : List Pt} {l : List (List Pt)} {acc : List Pt} (h : checkI p = 0) (h2 : (loOf p).x < 0 ∨ len < (hiOf p).x) : extGoZ len (p :: l) acc = ([], 13) := by rw [extGoZ, if_neg (by simpa using h), if_pos h2]
theorem extgo_ok {len : Int} {p : List Pt} {l : List (List Pt)} {acc : List Pt} (h : checkI p = 0) (h2 : ¬ ((loOf p).x < 0 ∨ len < (hiOf p).x)) : extGoZ len (p :: l) acc = extGoZ len l (acc ++ [⟨(loOf p).x, (hiOf p).x⟩]) := by rw [extGoZ, if_neg (by simpa using h), if_neg h2]
set_option maxHeartbeats 4000000 in
set_option maxRecDepth 100000 in
theorem splice_extents (Q : Option Addr) (qc : Nat) (len : Int) (polys : List (List Pt)) (w : World) (hps : Polys w Q polys) (hpl : ∀ p ∈ polys, p.length ≤ 1099511627776) :
  Calls Tryz.prog 164 #[.int .i64 len, .slice Q polys.length qc] w (ZPost (extentsR len polys) w) := by
 go_enter Tryz.func164, Tryz.ntmps164
 by_cases h1 : len < 1
 ·have d1 : decide (len < 1) = true := by simpa using h1
  have H := Lib.hid (ext_range (polys := polys) (.inl h1))
  go_wp2
  go_ret2
  exact .inr ⟨by rw [H.out]; decide, by rw [H.out]; rfl, Later.refl _⟩
 have d1 : decide (len < 1) = false := by simpa using h1
 by_cases h2 : 1048576 < len
 ·have d2 : decide (1048576 < len) = true := by simpa using h2
  have H := Lib.hid (ext_range (polys := polys) (.inr h2))
  go_wp2
  go_ret2
  exact .inr ⟨by rw [H.out]; decide, by rw [H.out]; rfl, Later.refl _⟩
 have d2 : decide (1048576 < len) = false := by simpa using h2
 by_cases h3 : 60 < polys.length
 ·have d3 : decide ((60 : Int) < (polys.length : Int)) = true := by simp; omega
  have H := Lib.hid (ext_long (len := len) (by omega) h3)
  go_wp2
  go_ret2
  exact .inr ⟨by rw [H.out]; decide, by rw [H.out]; rfl, Later.refl _⟩
 have d3 : decide ((60 : Int) < (polys.length : Int)) = false := by simp; omega
 have H := Lib.hid (ext_go (len := len) (polys := polys) (by omega) h3)
 have h60 : polys.length ≤ 60 := by omega
 go_wp2
 clear d1 d2 d3
 go_loopw [6, 22] (fun v iv wr => ∃ (k : Nat) (acc : List Pt), k ≤ polys.length ∧ acc.length = k ∧ iv = .int .i64 k ∧ extGoZ len polys [] = extGoZ len (polys.drop k) acc ∧ OwnR wr w.heap.size 190 2 pt2 v acc ∧ Later w wr) (fun _ iv _ => polys.length - (intOf iv).toNat)
 case atStart => exact ⟨0, [], by omega, rfl, rfl, rfl, World.ownsRow_nil _ _ _ _, Later.refl _⟩
 case round =>
  obtain ⟨k, acc, hk, hacl, rfl, he, ho, hb⟩ := hrel
  have He := Lib.hid he
  have Ho := Lib.hid ho
  have Hacl := Lib.hid hacl
  clear he ho hacl
  by_cases hlt : k < polys.length
  ·obtain ⟨bq, oq, A', c', rfl, k1, k2, k3⟩ := (hps.later hb).at_ hlt
   have Hd := Lib.hid (drop_cons' polys k hlt)
   have hpn := hpl _ (List.getElem_mem hlt)
   generalize polys[k] = ps at *
   have hbz : bq < wr.heap.size := World.block_lt_of_cell? _ _ k1
   rcases Classical.em (checkI ps = 0) with hc | hc
   ·have HB := Lib.hid (fun W (hW : Later wr W) => polygon_Box_ok A' c' ps W hpn k2 (k3.later hW) hc)
    have hsm := lo_sm (small_of_check hc)
    have Hok := Lib.hid (fun l (acc : List Pt) h => extgo_ok (len := len) (l := l) (acc := acc) hc h)
    have Hout := Lib.hid (fun l (acc : List Pt) h => extgo_out (len := len) (l := l) (acc := acc) hc h)
    clear hc
    generalize loOf ps = lo at *
    generalize hiOf ps = hi at *
    obtain ⟨lx, ly⟩ := lo
    obtain ⟨hx, hy⟩ := hi
    obtain ⟨⟨s1, s2⟩, ⟨s3, s4⟩⟩ := hsm
    unfold Sm at s1 s2 s3 s4
    simp only [] at s1 s2 s3 s4 HB Hok Hout
    by_cases hx0 : lx < 0
    ·have dx0 : decide (lx < 0) = true := by simpa using hx0
     go_wp2_with (first | (go_at_call 10; (with_reducible refine (HB.out _ (Later.refl _)).mono ?_); rintro e w5 ⟨rfl, hb5⟩))
     go_ret2
     exact .inr ⟨by rw [H.out, He.out, Hd.out, Hout.out _ _ (.inl hx0)]; decide, by rw [H.out, He.out, Hd.out, Hout.out _ _ (.inl hx0)]; rfl, (by repeat' (with_reducible first | exact .refl _ | assumption | refine .drew ?_ | refine .drewN ?_ _ | refine .alloc ?_ _ | refine .put ?_ (by omega) _ | refine .trans ?_ (by assumption)))⟩
    ·have dx0 : decide (lx < 0) = false := by simpa using hx0
     by_cases hx1 : len < hx
     ·have dx1 : decide (len < lx + (hx - lx)) = true := by simp; omega
      go_wp2_with (first | (go_at_call 10; (with_reducible refine (HB.out _ (Later.refl _)).mono ?_); rintro e w5 ⟨rfl, hb5⟩))
      go_ret2
      exact .inr ⟨by rw [H.out, He.out, Hd.out, Hout.out _ _ (.inr hx1)]; decide, by rw [H.out, He.out, Hd.out, Hout.out _ _ (.inr hx1)]; rfl, (by repeat' (with_reducible first | exact .refl _ | assumption | refine .drew ?_ | refine .drewN ?_ _ | refine .alloc ?_ _ | refine .put ?_ (by omega) _ | refine .trans ?_ (by assumption)))⟩
     ·have dx1 : decide (len < lx + (hx - lx)) = false := by simp; omega
      go_upto_region 14 with (first | (go_at_call 10; (with_reducible refine (HB.out _ (Later.refl _)).mono ?_); rintro e w5 ⟨rfl, hb5⟩))
      refine name_world (fun W9 hW9 => ?_)
      have hl9 : Later wr W9 := by rw [hW9]; exact (by repeat' (with_reducible first | exact .refl _ | assumption | refine .drew ?_ | refine .drewN ?_ _ | refine .alloc ?_ _ | refine .put ?_ (by omega) _ | refine .trans ?_ (by assumption)))
      have z0 : W9.cell? ⟨w5.heap.size, 0, none⟩ = some (.int .i64 lx) := by rw [hW9]; simp [go_sem]
      have z2 : W9.cell? ⟨w5.heap.size, 2, none⟩ = some (.int .i64 (hx - lx)) := by rw [hW9]; simp [go_sem]
      have hgz : w5.heap.size < W9.heap.size := World.block_lt_of_cell? _ _ z0
      clear hW9
      generalize w5.heap.size = g9 at *
      have HS := Lib.hid (SrcAt.blk (Blk.new W9 190 #[.int .i64 lx, .int .i64 (lx + (hx - lx))]))
      have Hsum := Lib.hid (show lx + (hx - lx) = hx by omega)
      go_wp2_with (at_builtin; refine wpList_append_rec slt_zone pt2_len pt2_one rfl (.tmp 46) (.tmp 55) rfl (base := w.heap.size) (l := acc) rfl (OwnR.alloc (Ho.out.later hl9) _) (A := some ⟨W9.heap.size, 0, none⟩) (c := 1) [⟨lx, lx + (hx - lx)⟩] rfl (by intro h; cases h) HS.out (by have := Hacl.out; simp; omega) (by have := hb.size; have := hl9.size; simp; omega) ?_; intro A3 c3' w3 ho3 hg3)
      have hl3 : Later w w3 := Later.grown ((hb.trans hl9).alloc _) hg3 (fun g hg => (World.ownsRow.lt Ho.out g hg).1)
      clear hg3
      have Ho3 := Lib.hid ho3
      clear ho3
      simp only [List.length_append, List.length_singleton] at Ho3
      go_roundw
      case rel => exact ⟨k + 1, acc ++ [⟨lx, lx + (hx - lx)⟩], by omega, by have := Hacl.out; simp; omega, by go_num, by rw [He.out, Hd.out, Hok.out _ _ (by omega), Hsum.out], Ho3.out, hl3⟩
      case measure => simp [intOf]; omega
   ·have HB := Lib.hid (fun W (hW : Later wr W) => polygon_Box_err A' c' ps W hpn k2 (k3.later hW) hc)
    have Hbad := Lib.hid (fun l (acc : List Pt) => extgo_bad (len := len) (l := l) (acc := acc) hc)
    have hne : (checkI ps != 0) = true := by simpa using hc
    have Hc := Lib.hid hc
    clear hc
    generalize checkI ps = er at *
    go_wp2_with (first | (go_at_call 10; (with_reducible refine (HB.out _ (Later.refl _)).mono ?_); rintro e w5 ⟨rfl, hb5⟩))
    go_ret2
    exact .inr ⟨by rw [H.out, He.out, Hd.out, Hbad.out]; exact Hc.out, by rw [H.out, He.out, Hd.out, Hbad.out]; rfl, (by repeat' (with_reducible first | exact .refl _ | assumption | refine .drew ?_ | refine .drewN ?_ _ | refine .alloc ?_ _ | refine .put ?_ (by omega) _ | refine .trans ?_ (by assumption)))⟩
  ·have hke : k = polys.length := by omega
   have H0 := Lib.hid (show extentsR len polys = (acc, 0) by rw [H.out, He.out, List.drop_eq_nil_of_le (by omega)]; rfl)
   obtain ⟨A6, c6, e6, p1, p2, p3⟩ := Ho.out.zns
   subst e6
   go_wp2
   go_ret2
   exact .inl ⟨by rw [H0.out], A6, c6, by rw [H0.out]; rfl, by rw [H0.out]; exact p1, p2, by rw [H0.out]; exact p3, hb⟩
attribute [local go_sem] ite_min ite_max
theorem back_step {hi lo : Int} {z : Pt} {l : List Pt} : (z :: l).foldl (fun lo z => if hi < z.y then min lo z.x else lo) lo = l.foldl (fun lo z => if hi < z.y then min lo z.x else lo) (if hi < z.y then min lo z.x else lo) := rfl
set_option maxHeartbeats 2000000 in
theorem splice_back (B : Option Addr) (cb : Nat) (zs : List Pt) (hi : Int) (w : World) (hz : Pts w B zs) (hn : zs.length ≤ 65536) :
  Calls Tryz.prog 165 #[.slice B zs.length cb, .int .i64 hi] w (Ret (.int .i64 (backR zs hi)) w) := by
 go_enter Tryz.func165, Tryz.ntmps165
 go_wp2
 go_loopw [5, 11] (fun v iv wr => ∃ (k : Nat) (lo : Int), k ≤ zs.length ∧ iv = .int .i64 k ∧ v = .int .i64 lo ∧ backR zs hi = (zs.drop k).foldl (fun lo z => if hi < z.y then min lo z.x else lo) lo ∧ Later w wr) (fun _ iv _ => zs.length - (intOf iv).toNat)
 case atStart => exact ⟨0, hi, by omega, rfl, rfl, rfl, Later.refl _⟩
 case round =>
  obtain ⟨k, lo, hk, rfl, rfl, he, hb⟩ := hrel
  have He := Lib.hid he
  clear he
  by_cases hlt : k < zs.length
  ·obtain ⟨b, o, rfl, e1, e2⟩ := (hz.later hb).at_ hlt
   have hbz : b < wr.heap.size := World.block_lt_of_cell? _ _ e1
   have Hd := Lib.hid (drop_cons' zs k hlt)
   generalize zs[k] = z at *
   obtain ⟨zx, zy⟩ := z
   simp only [] at e1 e2
   by_cases h1 : hi < zy
   ·have Hs := Lib.hid (show (if hi < zy then min lo zx else lo) = min lo zx by rw [if_pos h1])
    go_wp2
    go_roundw
    case rel => exact ⟨k + 1, _, by omega, by go_num, rfl, by rw [He.out, Hd.out, back_step, Hs.out], (by repeat' (with_reducible first | exact .refl _ | assumption | refine .drew ?_ | refine .drewN ?_ _ | refine .alloc ?_ _ | refine .put ?_ (by omega) _ | refine .trans ?_ (by assumption)))⟩
    case measure => simp [intOf]; omega
   ·have Hs := Lib.hid (show (if hi < zy then min lo zx else lo) = lo by rw [if_neg h1])
    go_wp2
    go_roundw
    case rel => exact ⟨k + 1, _, by omega, by go_num, rfl, by rw [He.out, Hd.out, back_step, Hs.out], (by repeat' (with_reducible first | exact .refl _ | assumption | refine .drew ?_ | refine .drewN ?_ _ | refine .alloc ?_ _ | refine .put ?_ (by omega) _ | refine .trans ?_ (by assumption)))⟩
    case measure => simp [intOf]; omega
  ·go_wp2
   go_ret
   exact ⟨ret_int (by rw [He.out, List.drop_eq_nil_of_le (by omega)]; rfl), hb⟩
theorem backR_bad {len hi : Int} {polys : List (List Pt)} (h : (extentsR len polys).2 ≠ 0) : BackR len polys hi = (0, (extentsR len polys).2) := by unfold BackR; rw [if_pos h]
theorem backR_range {len hi : Int} {polys : List (List Pt)} (h : (extentsR len polys).2 = 0) (h2 : hi < 0 ∨ len < hi) : BackR len polys hi = (0, 3) := by unfold BackR; rw [if_neg (by simpa using h), if_pos h2]
theorem backR_in {len hi : Int} {polys : List (List Pt)} (h : (extentsR len polys).2 = 0) (h2 : ¬ (hi < 0 ∨ len < hi)) : BackR len polys hi = (backR (extentsR len polys).1 hi, 0) := by unfold BackR; rw [if_neg (by simpa using h), if_neg h2]
theorem ext_len (len : Int) (polys : List (List Pt)) : (extentsR len polys).1.length ≤ polys.length ∧ (extentsR len polys).1.length ≤ 60 := by
 have key : ∀ (l : List (List Pt)) (acc : List Pt), (extGoZ len l acc).1.length ≤ acc.length + l.length := by
  intro l
  induction l with
  | nil => intro acc; simp [extGoZ]
  | cons p l ih =>
   intro acc
   rw [extGoZ]
   split
   ·simp
   ·split
    ·simp
    ·have := ih (acc ++ [⟨(loOf p).x, (hiOf p).x⟩])
     simp at this ⊢
     omega
 unfold extentsR
 split
 ·simp
 ·split
  ·simp
  ·have := key polys []
   simp at this
   exact ⟨this, by omega⟩
set_option maxHeartbeats 2000000 in
theorem splice_Back (Q : Option Addr) (qc : Nat) (len hi : Int) (polys : List (List Pt)) (w : World) (hps : Polys w Q polys) (hpl : ∀ p ∈ polys, p.length ≤ 1099511627776) :
  Calls Tryz.prog 116 #[.int .i64 len, .slice Q polys.length qc, .int .i64 hi] w (Ret (.tuple #[.int .i64 (BackR len polys hi).1, .int .i64 (BackR len polys hi).2]) w) := by
 have HE := Lib.hid (splice_extents Q qc len polys w hps hpl)
 have hl := ext_len len polys
 have Hbad := Lib.hid (backR_bad (len := len) (polys := polys) (hi := hi))
 have Hrg := Lib.hid (backR_range (len := len) (polys := polys) (hi := hi))
 have Hin := Lib.hid (backR_in (len := len) (polys := polys) (hi := hi))
 generalize extentsR len polys = E at *
 generalize BackR len polys hi = R at *
 obtain ⟨zs, er⟩ := E
 simp only [] at *
 rcases Classical.em (er = 0) with h0 | h0
 ·subst h0
  by_cases h1 : hi < 0
  ·have d1 : decide (hi < 0) = true := by simpa using h1
   have Hr := Lib.hid (Hrg.out rfl (.inl h1))
   go_enter Tryz.func116, Tryz.ntmps116
   go_wp2_with (first | (go_at_call 164; (with_reducible refine HE.out.mono ?_); rintro e w1 (⟨_, A1, c1, rfl, q1, q2, q3, hb1⟩ | ⟨q0, _⟩); rotate_left; exact absurd rfl q0))
   go_ret2
   exact ⟨by rw [Hr.out]; rfl, hb1⟩
  ·have d1 : decide (hi < 0) = false := by simpa using h1
   by_cases h2 : len < hi
   ·have d2 : decide (len < hi) = true := by simpa using h2
    have Hr := Lib.hid (Hrg.out rfl (.inr h2))
    go_enter Tryz.func116, Tryz.ntmps116
    go_wp2_with (first | (go_at_call 164; (with_reducible refine HE.out.mono ?_); rintro e w1 (⟨_, A1, c1, rfl, q1, q2, q3, hb1⟩ | ⟨q0, _⟩); rotate_left; exact absurd rfl q0))
    go_ret2
    exact ⟨by rw [Hr.out]; rfl, hb1⟩
   ·have d2 : decide (len < hi) = false := by simpa using h2
    have Hr := Lib.hid (Hin.out rfl (by omega))
    go_enter Tryz.func116, Tryz.ntmps116
    go_wp2_with (first | (go_at_call 164; (with_reducible refine HE.out.mono ?_); rintro e w1 (⟨_, A1, c1, rfl, q1, q2, q3, hb1⟩ | ⟨q0, _⟩); rotate_left; exact absurd rfl q0) | (go_at_call 165; (with_reducible refine (splice_back A1 c1 zs hi _ q3 (by omega)).mono ?_); rintro e w2 ⟨rfl, hb2⟩))
    go_ret2
    exact ⟨by rw [Hr.out]; rfl, hb1.trans hb2⟩
 ·have dn : (er != 0) = true := by simpa using h0
  have Hr := Lib.hid (Hbad.out h0)
  go_enter Tryz.func116, Tryz.ntmps116
  go_wp2_with (first | (go_at_call 164; (with_reducible refine HE.out.mono ?_); rintro e w1 (⟨q0, _⟩ | ⟨_, rfl, hb1⟩); exact absurd q0 h0))
  go_ret2
  exact ⟨by rw [Hr.out]; rfl, hb1⟩
end Go.Proofs.YtdhakoecjmaebaaGreat
namespace Go.Proofs.YtdhakoecjmaebaaGreat
open Go.RowKit
set_option linter.unusedSimpArgs false
set_option linter.unusedVariables false
def gL (l : List Int) (j : Nat) : Int := l.getD j 0
def grl (rs : List Rl) (j : Nat) : Rl := rs.getD j ⟨⟨#[]⟩, 0, 0, 0, 0, 0, none, 0, []⟩
theorem grl_eq {rs : List Rl} {j : Nat} (h : j < rs.length) : grl rs j = rs[j] := by unfold grl; simp [h]
theorem gL_eq {l : List Int} {j : Nat} (h : j < l.length) : gL l j = l[j] := by unfold gL; simp [h]
def rollsErr : List Rl → Int
 | [] => 0
 | r :: l => if rollI r ≠ 0 then rollI r else rollsErr l
theorem rolls_bad {r : Rl} {l : List Rl} (h : rollI r ≠ 0) : rollsErr (r :: l) = rollI r := by rw [rollsErr, if_pos h]
theorem rolls_good {r : Rl} {l : List Rl} (h : rollI r = 0) : rollsErr (r :: l) = rollsErr l := by rw [rollsErr, if_neg (by simpa using h)]
theorem rolls_all {l : List Rl} : rollsErr l = 0 ↔ ∀ r ∈ l, rollI r = 0 := by
 induction l with
 | nil => simp [rollsErr]
 | cons r l ih =>
  by_cases h : rollI r = 0
  ·rw [rolls_good h, ih]; simp [h]
  ·rw [rolls_bad h]; simp [h]
def chkRollsR (rs : List Rl) (nl : Nat) : Int := if 20 < rs.length then 5 else if rollsErr rs ≠ 0 then rollsErr rs else if nl ≠ rs.length then 1 else 0
def chkClothR (len wd : Int) (polys : List (List Pt)) (rs : List Rl) (nl : Nat) : Int :=
 if (BackR len polys 0).2 ≠ 0 then (BackR len polys 0).2 else if chkRollsR rs nl ≠ 0 then chkRollsR rs nl else if wd < 1 ∨ 1048576 < wd then 3 else 0
def lotsBad : List Int → Bool
 | [] => false
 | n :: l => if n < 0 then true else lotsBad l
def pliesGo : Int → List Int → Int
 | _, [] => 0
 | s, n :: l => if n < 0 ∨ 40 - s < n then 3 else pliesGo (s + n) l
def chkPliesR (lots plies : List Int) : Int := if lotsBad lots = true then 3 else pliesGo 0 plies
def remGo (lot wd : Int) : List Rl → List Int → Nat → List Qd
 | r :: rs, t :: ts, i => if t = lot ∧ wd ≤ r.wd then ⟨(i : Int), lot, 0, r.ln⟩ :: remGo lot wd rs ts (i + 1) else remGo lot wd rs ts (i + 1)
 | _, _, _ => []
def remR (rs : List Rl) (lots : List Int) (lot wd : Int) : List Qd := remGo lot wd rs lots 0
def layR (len : Int) (polys : List (List Pt)) : List Qd → Int → Option (List Qd × List Qd)
 | [], _ => none
 | r :: l, at_ =>
  if len - at_ ≤ r.d - r.c then some ([⟨r.a, r.c, r.c + (len - at_), at_⟩], ⟨r.a, r.b, r.c + (len - at_), r.d⟩ :: l)
  else if 0 < r.d - r.c ∧ (BestR len polys at_ (at_ + (r.d - r.c))).2 = 0 then
   (layR len polys l (BestR len polys at_ (at_ + (r.d - r.c))).1.x).map fun x => (⟨r.a, r.c, r.c + ((BestR len polys at_ (at_ + (r.d - r.c))).1.y - at_), at_⟩ :: x.1, x.2)
  else layR len polys l at_
abbrev Pl := Int × List Qd
def pliesN (len : Int) (polys : List (List Pt)) (lot : Int) : Nat → List Qd → Option (List Pl)
 | 0, _ => some []
 | n + 1, left => (layR len polys left 0).bind fun x => (pliesN len polys lot n x.2).map fun r => (lot, x.1) :: r
def lotsGo (len wd : Int) (polys : List (List Pt)) (rs : List Rl) (lots : List Int) : List Int → Nat → Option (List Pl)
 | [], _ => some []
 | n :: l, k => (pliesN len polys k n.toNat (remR rs lots k wd)).bind fun x => (lotsGo len wd polys rs lots l (k + 1)).map fun r => x ++ r
def clothB (p : Qd) (rs : List Rl) : Bool := decide (0 ≤ p.a) && (decide (p.a < (rs.length : Int)) && (decide (0 ≤ p.b) && (decide (p.b < p.c) && decide (p.c ≤ (grl rs p.a.toNat).ln))))
def endQ (p : Qd) : Int := p.d + p.c - p.b
def joinsB (len : Int) (polys : List (List Pt)) (p q : Qd) : Bool :=
 if q.d ≤ p.d ∨ endQ p < q.d then false else (BackR len polys (endQ p)).2 == 0 && decide (q.d ≤ (BackR len polys (endQ p)).1)
def partErr (len wd : Int) (polys : List (List Pt)) (rs : List Rl) (lots : List Int) (lot : Int) (prev : Option Qd) (p : Qd) : Int :=
 if clothB p rs = false ∨ p.d < 0 ∨ len < p.d then 3 else if gL lots p.a.toNat ≠ lot then 16 else if (grl rs p.a.toNat).wd < wd then 13
 else match prev with
  | none => if p.d ≠ 0 then 20 else 0
  | some q => if joinsB len polys q p = true then 0 else 20
def plyGo (len wd : Int) (polys : List (List Pt)) (rs : List Rl) (lots : List Int) (lot : Int) : Option Qd → List Qd → Int
 | none, [] => 20
 | some q, [] => if endQ q ≠ len then 20 else 0
 | prev, p :: l => if partErr len wd polys rs lots lot prev p ≠ 0 then partErr len wd polys rs lots lot prev p else plyGo len wd polys rs lots lot (some p) l
def plyR (len wd : Int) (polys : List (List Pt)) (rs : List Rl) (lots : List Int) (y : Pl) : Int := plyGo len wd polys rs lots y.1 none y.2
def plysErr (len wd : Int) (polys : List (List Pt)) (rs : List Rl) (lots : List Int) : List Pl → Int
 | [] => 0
 | y :: l => if plyR len wd polys rs lots y ≠ 0 then plyR len wd polys rs lots y else plysErr len wd polys rs lots l
theorem plys_bad {len wd : Int} {polys : List (List Pt)} {rs : List Rl} {lots : List Int} {y : Pl} {l : List Pl} (h : plyR len wd polys rs lots y ≠ 0) : plysErr len wd polys rs lots (y :: l) = plyR len wd polys rs lots y := by rw [plysErr, if_pos h]
theorem plys_good {len wd : Int} {polys : List (List Pt)} {rs : List Rl} {lots : List Int} {y : Pl} {l : List Pl} (h : plyR len wd polys rs lots y = 0) : plysErr len wd polys rs lots (y :: l) = plysErr len wd polys rs lots l := by rw [plysErr, if_neg (by simpa using h)]
theorem plys_all {len wd : Int} {polys : List (List Pt)} {rs : List Rl} {lots : List Int} {l : List Pl} : plysErr len wd polys rs lots l = 0 ↔ ∀ y ∈ l, plyR len wd polys rs lots y = 0 := by
 induction l with
 | nil => simp [plysErr]
 | cons r l ih =>
  by_cases h : plyR len wd polys rs lots r = 0
  ·rw [plys_good h, ih]; simp [h]
  ·rw [plys_bad h]; simp [h]
def allQ (ys : List Pl) : List Qd := ys.flatMap (·.2)
def Clash (p q : Qd) : Prop := p.a = q.a ∧ p.b < q.c ∧ q.b < p.c
instance (p q : Qd) : Decidable (Clash p q) := by unfold Clash; exact inferInstance
def NoTwice (l : List Qd) : Prop := l.Pairwise fun p q => ¬ Clash p q
instance (l : List Qd) : Decidable (NoTwice l) := by unfold NoTwice; exact inferInstance
def scheckR (len wd : Int) (polys : List (List Pt)) (rs : List Rl) (lots : List Int) (ys : List Pl) : Int :=
 if chkClothR len wd polys rs lots.length ≠ 0 then chkClothR len wd polys rs lots.length else if 40 < ys.length then 5
 else if plysErr len wd polys rs lots ys ≠ 0 then plysErr len wd polys rs lots ys else if NoTwice (allQ ys) then 0 else 14
def insZ (z : Pt) : List Pt → List Pt
 | [] => [z]
 | y :: l => if z.x ≤ y.x then z :: y :: l else y :: insZ z l
def sortZ (l : List Pt) : List Pt := l.foldr insZ []
def zonesOf (i : Int) (parts : List Qd) : List Pt := (parts.filter fun q => decide (q.a = i)).map fun q => ⟨q.b, q.c⟩
def restGo (i lot ln : Int) : Int → List Pt → List Qd
 | f, [] => if f < ln then [⟨i, lot, f, ln⟩] else []
 | f, z :: l => (if f < z.x then [⟨i, lot, f, z.x⟩] else []) ++ restGo i lot ln z.y l
def restsFrom (parts : List Qd) : List Rl → List Int → Nat → List Qd
 | r :: rs, t :: ts, i => restGo i t r.ln 0 (sortZ (zonesOf i parts)) ++ restsFrom parts rs ts (i + 1)
 | _, _, _ => []
def restsR (rs : List Rl) (lots : List Int) (ys : List Pl) : List Qd × Int :=
 if chkRollsR rs lots.length ≠ 0 then ([], chkRollsR rs lots.length) else if 40 < ys.length then ([], 5)
 else if (allQ ys).all (fun p => clothB p rs) = false then ([], 3) else if NoTwice (allQ ys) then (restsFrom (allQ ys) rs lots 0, 0) else ([], 14)
def spreadR (len wd : Int) (polys : List (List Pt)) (rs : List Rl) (lots plies : List Int) : List Pl × List Qd × Int :=
 if chkClothR len wd polys rs lots.length ≠ 0 then ([], [], chkClothR len wd polys rs lots.length) else if chkPliesR lots plies ≠ 0 then ([], [], chkPliesR lots plies)
 else match lotsGo len wd polys rs lots plies 0 with
  | none => ([], [], 17)
  | some ys => if (restsR rs lots ys).2 ≠ 0 then ([], [], (restsR rs lots ys).2) else (ys, (restsR rs lots ys).1, 0)
theorem insZ_perm (z : Pt) (l : List Pt) : (insZ z l).Perm (z :: l) := by
 induction l with
 | nil => exact List.Perm.refl _
 | cons y l ih =>
  rw [insZ]
  split
  ·exact List.Perm.refl _
  ·exact (ih.cons y).trans (List.Perm.swap ..)
theorem sortZ_perm (l : List Pt) : (sortZ l).Perm l := by
 induction l with
 | nil => exact List.Perm.refl _
 | cons y l ih => exact (insZ_perm y _).trans (ih.cons y)
theorem insZ_sorted (z : Pt) {l : List Pt} (h : l.Pairwise fun a b => a.x ≤ b.x) : (insZ z l).Pairwise fun a b => a.x ≤ b.x := by
 induction l with
 | nil => exact List.pairwise_singleton ..
 | cons y l ih =>
  rw [List.pairwise_cons] at h
  rw [insZ]
  split
  ·rename_i hz
   rw [List.pairwise_cons]
   refine ⟨fun a ha => ?_, List.pairwise_cons.2 h⟩
   rcases List.mem_cons.1 ha with rfl | ha
   ·exact hz
   ·have := h.1 a ha; omega
  ·rename_i hz
   rw [List.pairwise_cons]
   refine ⟨fun a ha => ?_, ih h.2⟩
   rcases List.mem_cons.1 ((insZ_perm z l).subset ha) with rfl | ha
   ·omega
   ·exact h.1 a ha
theorem sortZ_sorted (l : List Pt) : (sortZ l).Pairwise fun a b => a.x ≤ b.x := by
 induction l with
 | nil => exact List.Pairwise.nil
 | cons y l ih => exact insZ_sorted y ih
def Apt (l : List Pt) : Prop := l.Pairwise fun a b => a.y ≤ b.x
theorem sorted_unique : ∀ {l m : List Pt}, l.Perm m → (∀ z ∈ m, z.x < z.y) → (l.Pairwise fun a b => a.x ≤ b.x) → Apt m → l = m := by
 intro l m
 induction m generalizing l with
 | nil => intro h _ _ _; exact h.eq_nil
 | cons z m ih =>
  intro h hz hl hm
  unfold Apt at hm
  rw [List.pairwise_cons] at hm
  cases l with
  | nil => exact absurd h.symm.eq_nil (by simp)
  | cons y l =>
   rw [List.pairwise_cons] at hl
   have hy : y = z := by
    rcases List.mem_cons.1 (h.subset (List.mem_cons_self ..)) with k | k
    ·exact k
    ·rcases List.mem_cons.1 (h.symm.subset (List.mem_cons_self ..)) with j | j
     ·exact j.symm
     ·have := hl.1 z j
      have := hm.1 y k
      have := hz z (List.mem_cons_self ..)
      omega
   subst hy
   rw [ih (List.Perm.cons_inv h) (fun z hz' => hz z (List.mem_cons_of_mem _ hz')) hl.2 hm.2]
theorem zones_mem {i : Int} {parts : List Qd} {z : Pt} : z ∈ zonesOf i parts ↔ ∃ q ∈ parts, q.a = i ∧ z = ⟨q.b, q.c⟩ := by
 unfold zonesOf
 rw [List.mem_map]
 constructor
 ·rintro ⟨q, hq, rfl⟩
  rw [List.mem_filter] at hq
  exact ⟨q, hq.1, by simpa using hq.2, rfl⟩
 ·rintro ⟨q, hq, h, rfl⟩
  exact ⟨q, List.mem_filter.2 ⟨hq, by simpa using h⟩, rfl⟩
theorem zones_append (i : Int) (a b : List Qd) : zonesOf i (a ++ b) = zonesOf i a ++ zonesOf i b := by unfold zonesOf; rw [List.filter_append, List.map_append]
theorem zones_cons (i : Int) (p : Qd) (b : List Qd) : zonesOf i (p :: b) = (if p.a = i then [⟨p.b, p.c⟩] else []) ++ zonesOf i b := by
 unfold zonesOf
 rw [List.filter_cons]
 by_cases h : p.a = i <;> simp [h]
def Disj (l : List Pt) : Prop := l.Pairwise fun a b => ¬ (a.x < b.y ∧ b.x < a.y)
theorem disj_perm {l m : List Pt} (h : l.Perm m) : Disj l → Disj m := by
 intro hl
 unfold Disj at *
 exact (h.pairwise_iff (fun {a b} hab => by intro k; exact hab ⟨k.2, k.1⟩)).1 hl
theorem apt_disj {l : List Pt} (hz : ∀ z ∈ l, z.x < z.y) (hs : l.Pairwise fun a b => a.x ≤ b.x) : Disj l ↔ Apt l := by
 unfold Disj Apt
 constructor
 ·intro h
  refine (List.Pairwise.and h hs).imp_of_mem fun {a b} ha hb hab => ?_
  have := hz a ha
  have := hz b hb
  omega
 ·intro h
  exact h.imp fun hab k => by omega
theorem noTwice_disj {l : List Qd} (h : NoTwice l) (i : Int) : Disj (zonesOf i l) := by
 unfold Disj zonesOf
 rw [List.pairwise_map]
 have := (List.Pairwise.filter (fun q => decide (q.a = i)) h)
 refine this.imp_of_mem fun {a b} ha hb hab k => hab ⟨?_, k.1, k.2⟩
 rw [List.mem_filter] at ha hb
 have h1 : a.a = i := by simpa using ha.2
 have h2 : b.a = i := by simpa using hb.2
 rw [h1, h2]
theorem noTwice_of {l : List Qd} {n : Nat} (hn : ∀ p ∈ l, 0 ≤ p.a ∧ p.a < (n : Int)) (h : ∀ i : Nat, i < n → Disj (zonesOf i l)) : NoTwice l := by
 unfold NoTwice
 induction l with
 | nil => exact List.Pairwise.nil
 | cons p l ih =>
  rw [List.pairwise_cons]
  refine ⟨fun q hq hc => ?_, ih (fun r hr => hn r (List.mem_cons_of_mem _ hr)) (fun i hi => ?_)⟩
  ·have hp := hn p (List.mem_cons_self ..)
   have := h p.a.toNat (by omega)
   rw [show ((p.a.toNat : Nat) : Int) = p.a by omega, zones_cons, if_pos rfl] at this
   unfold Disj at this
   rw [List.singleton_append, List.pairwise_cons] at this
   exact this.1 ⟨q.b, q.c⟩ (zones_mem.2 ⟨q, hq, hc.1.symm, rfl⟩) ⟨hc.2.1, hc.2.2⟩
  ·have := h i hi
   rw [zones_cons] at this
   unfold Disj at *
   exact (List.pairwise_append.1 this).2.1
end Go.Proofs.YtdhakoecjmaebaaGreat
