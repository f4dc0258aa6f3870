/-
 Plain facts on accounts: what is taken covers the marker, nothing is negative, the order of the plies, each ply alone, what is used and left of each roll.
-/
import Derived.Test.YtdhakoecjmaebaaGreatZGeoC
import Derived.Test.YtdhakoecjmaebaaGreatZTurnP
import Derived.Test.YtdhakoecjmaebaaGreatZSprR
import Derived.Test.YtdhakoecjmaebaaGreatZSprP
import Derived.BigQuiet
namespace Go.Proofs.YtdhakoecjmaebaaGreat
open Go.RowKit
set_option linter.unusedSimpArgs false
set_option linter.unusedVariables false
theorem tknQ_cons (rs : List Rl) (p : Qd) (l : List Qd) : tknQ rs (p :: l) = 2 * (p.c - p.b) * wdOf rs p + tknQ rs l := by simp [tknQ]
theorem hitA_cons (b : Bool) (rs : List Rl) (polys : List (List Pt)) (y : Py) (ys : List Py) : hitA b rs polys (y :: ys) = sumHit b polys (hitRow rs polys y) + hitA b rs polys ys := by simp [hitA]
theorem hitA_both (rs : List Rl) (polys : List (List Pt)) : ∀ (ys : List Py), hitA false rs polys ys + hitA true rs polys ys = areaTot polys * (ys.length : Int) := by
 intro ys
 induction ys with
 | nil => simp [hitA]
 | cons y ys ih =>
  have h := sumHit_both (ps := polys) (r := hitRow rs polys y) (by simp [hitRow])
  have e3 : areaTot polys * ((y :: ys).length : Int) = areaTot polys + areaTot polys * (ys.length : Int) := by rw [List.length_cons]; grind
  rw [hitA_cons, hitA_cons]
  omega
theorem box_in (ps : List Pt) : ∀ p ∈ ps, (loOf ps).x ≤ p.x ∧ p.x ≤ (hiOf ps).x ∧ (loOf ps).y ≤ p.y ∧ p.y ≤ (hiOf ps).y := by
 have hl : ∀ (l : List Pt) (a : Pt), ((l.foldl loP a).x ≤ a.x ∧ (l.foldl loP a).y ≤ a.y) ∧ ∀ p ∈ l, (l.foldl loP a).x ≤ p.x ∧ (l.foldl loP a).y ≤ p.y := by
  intro l
  induction l with
  | nil => intro a; exact ⟨⟨Int.le_refl _, Int.le_refl _⟩, fun p hp => (by cases hp)⟩
  | cons b l ih =>
   intro a
   obtain ⟨i1, i2⟩ := ih (loP a b)
   have hx : (loP a b).x ≤ a.x ∧ (loP a b).x ≤ b.x ∧ (loP a b).y ≤ a.y ∧ (loP a b).y ≤ b.y := by unfold loP; simp only []; omega
   rw [List.foldl_cons]
   refine ⟨by omega, fun p hp => ?_⟩
   rcases List.mem_cons.1 hp with rfl | hp
   ·omega
   ·exact i2 p hp
 have hh : ∀ (l : List Pt) (a : Pt), (a.x ≤ (l.foldl hiP a).x ∧ a.y ≤ (l.foldl hiP a).y) ∧ ∀ p ∈ l, p.x ≤ (l.foldl hiP a).x ∧ p.y ≤ (l.foldl hiP a).y := by
  intro l
  induction l with
  | nil => intro a; exact ⟨⟨Int.le_refl _, Int.le_refl _⟩, fun p hp => (by cases hp)⟩
  | cons b l ih =>
   intro a
   obtain ⟨i1, i2⟩ := ih (hiP a b)
   have hx : a.x ≤ (hiP a b).x ∧ b.x ≤ (hiP a b).x ∧ a.y ≤ (hiP a b).y ∧ b.y ≤ (hiP a b).y := by unfold hiP; simp only []; omega
   rw [List.foldl_cons]
   refine ⟨by omega, fun p hp => ?_⟩
   rcases List.mem_cons.1 hp with rfl | hp
   ·omega
   ·exact i2 p hp
 intro p hp
 have h1 := (hl ps (ps.getD 0 ⟨0, 0⟩)).2 p hp
 have h2 := (hh ps (ps.getD 0 ⟨0, 0⟩)).2 p hp
 exact ⟨h1.1, h2.1, h1.2, h2.2⟩
theorem areas_cover {len wd : Int} {polys : List (List Pt)} {rs : List Rl} {lots : List Int} {ys : List Pl} (h1 : scheckR len wd polys rs lots ys = 0) (h2 : ckPolysR polys wd = 0) : areaTot polys ≤ 2 * len * wd := by
 obtain ⟨hc, _, _, _⟩ := scheck_zero h1
 obtain ⟨c1, c2, c3, c4⟩ := cloth_zero hc
 obtain ⟨e1, e2⟩ := ext_zones c1
 obtain ⟨l1, l2, _⟩ := ext_zero c1
 obtain ⟨k1, k2⟩ := ckPolys_zero h2
 have := areas_fit (pss := polys) (L := len) (W := wd) (by omega) (by omega) (fun p hp => (e2 p hp).1) (fun l hl p hp => by
  have b := box_in l p hp
  have a1 := e2 l hl
  have a2 := k1 l hl
  omega) k2
 have e : areaTot polys = areaSum polys := rfl
 rw [e, Int.mul_assoc]
 exact this
theorem acc_zero {len wd : Int} {polys : List (List Pt)} {rs : List Rl} {lots : List Int} {ys : List Py} (h : (accR len wd polys rs lots ys).2 = 0) :
  accR len wd polys rs lots ys = (balR rs polys ys, 0) ∧ scheckR len wd polys rs lots (ys.map Py.pl) = 0 ∧ ckPolysR polys wd = 0 := by
 unfold accR at h ⊢
 split at h
 ·rename_i h0
  rw [if_pos h0]
  unfold accE at h0
  split at h0
  ·rename_i h1; exact absurd h0 h1
  ·rename_i h1; exact ⟨rfl, Classical.byContradiction h1, h0⟩
 ·rename_i h0; exact absurd h h0
theorem acc_of {len wd : Int} {polys : List (List Pt)} {rs : List Rl} {lots : List Int} {ys : List Py} (h1 : scheckR len wd polys rs lots (ys.map Py.pl) = 0) (h2 : ckPolysR polys wd = 0) : accR len wd polys rs lots ys = (balR rs polys ys, 0) := by
 have : accE len wd polys rs lots ys = 0 := by unfold accE; rw [if_neg (by simpa using h1)]; exact h2
 unfold accR
 rw [if_pos this]
def usedR (n : Nat) (parts : List Qd) : List Int := (List.range n).map fun (i : Nat) => lenZ (zonesOf (i : Int) parts)
theorem used_len (n : Nat) (parts : List Qd) : (usedR n parts).length = n := by simp [usedR]
theorem used_at {n : Nat} {parts : List Qd} {i : Nat} (h : i < n) : (usedR n parts)[i]'(by rw [used_len]; exact h) = lenZ (zonesOf (i : Int) parts) := by simp [usedR]
theorem used_snoc {n : Nat} {parts : List Qd} {p : Qd} (h0 : 0 ≤ p.a) (h : p.a < (n : Int)) : usedR n (parts ++ [p]) = (usedR n parts).set p.a.toNat ((usedR n parts)[p.a.toNat]'(by rw [used_len]; omega) + (p.c - p.b)) := by
 refine List.ext_getElem (by simp [used_len]) fun i h1 h2 => ?_
 rw [used_len] at h1
 rw [used_at h1, List.getElem_set, zones_append, zones_cons]
 have ez : zonesOf (i : Int) [] = [] := rfl
 have ea : ∀ a b : List Pt, lenZ (a ++ b) = lenZ a + lenZ b := by intro a b; simp [lenZ]
 by_cases he : p.a.toNat = i
 ·rw [if_pos he, if_pos (by omega), used_at (by omega), ez, ea]
  subst he
  rw [show ((p.a.toNat : Nat) : Int) = p.a by omega]
  simp [lenZ]
 ·rw [if_neg he, if_neg (by omega), ez, used_at h1, ea]
  simp [lenZ]
theorem used_nil (n : Nat) : usedR n [] = List.replicate n 0 := by
 refine List.ext_getElem (by simp [used_len]) fun i h1 h2 => ?_
 rw [used_len] at h1
 rw [used_at h1, List.getElem_replicate]
 rfl
def pyOf (y : Pl) : Py := ⟨y.1, none, 0, y.2⟩
theorem py_pl (ys : List Py) : (((ys.map Py.pl).map pyOf).map Py.pl) = ys.map Py.pl := by
 rw [List.map_map, List.map_map]
 exact List.map_congr_left fun y _ => rfl
theorem bal_py (rs : List Rl) (polys : List (List Pt)) (ys : List Py) : balR rs polys ((ys.map Py.pl).map pyOf) = balR rs polys ys := by
 have h1 : tknA rs ((ys.map Py.pl).map pyOf) = tknA rs ys := by
  unfold tknA
  rw [List.map_map, List.map_map]
  exact congrArg List.sum (List.map_congr_left fun y _ => rfl)
 have h2 : dblA rs ((ys.map Py.pl).map pyOf) = dblA rs ys := by
  unfold dblA
  rw [List.map_map, List.map_map]
  exact congrArg List.sum (List.map_congr_left fun y _ => rfl)
 have h3 : ∀ b, hitA b rs polys ((ys.map Py.pl).map pyOf) = hitA b rs polys ys := fun b => by
  unfold hitA
  rw [List.map_map, List.map_map]
  exact congrArg List.sum (List.map_congr_left fun y _ => rfl)
 unfold balR
 rw [h1, h2, h3, h3]
theorem acc_py {len wd : Int} {polys : List (List Pt)} {rs : List Rl} {lots : List Int} {ys : List Py} : accR len wd polys rs lots ((ys.map Py.pl).map pyOf) = accR len wd polys rs lots ys := by
 unfold accR accE
 rw [py_pl, bal_py]
end Go.Proofs.YtdhakoecjmaebaaGreat
namespace Go.Proofs.YtdhakoecjmaebaaGreat
open Go.RowKit
set_option linter.unusedSimpArgs false
set_option linter.unusedVariables false
theorem ckY_bad {W : Int} {p : List Pt} {l : List (List Pt)} (h : checkI p ≠ 0) : ckYGo W (p :: l) = checkI p := by rw [ckYGo, if_pos h]
theorem ckY_far {W : Int} {p : List Pt} {l : List (List Pt)} (h : checkI p = 0) (h1 : (loOf p).y < 0 ∨ W < (hiOf p).y) : ckYGo W (p :: l) = 13 := by rw [ckYGo, if_neg (by simpa using h), if_pos h1]
theorem ckY_good {W : Int} {p : List Pt} {l : List (List Pt)} (h : checkI p = 0) (h1 : ¬ ((loOf p).y < 0 ∨ W < (hiOf p).y)) : ckYGo W (p :: l) = ckYGo W l := by rw [ckYGo, if_neg (by simpa using h), if_neg h1]
theorem ckO_err {p q : List Pt} {l : List (List Pt)} (h : (overR p q).2 ≠ 0) : ckORow p (q :: l) = (overR p q).2 := by rw [ckORow, if_pos h]
theorem ckO_hit {p q : List Pt} {l : List (List Pt)} (h : (overR p q).2 = 0) (h1 : (overR p q).1 = true) : ckORow p (q :: l) = 14 := by rw [ckORow, if_neg (by simpa using h), if_pos h1]
theorem ckO_miss {p q : List Pt} {l : List (List Pt)} (h : (overR p q).2 = 0) (h1 : (overR p q).1 = false) : ckORow p (q :: l) = ckORow p l := by rw [ckORow, if_neg (by simpa using h), if_neg (by simp [h1])]
theorem ckOGo_at {ps : List (List Pt)} {i n : Nat} (hi : i < ps.length) (hn : ps.length = i + n + 1) : ckOGo ps (n + 1) i = if ckORow ps[i] (ps.take i) ≠ 0 then ckORow ps[i] (ps.take i) else ckOGo ps n (i + 1) := by
 have e : ps.getD i [] = ps[i] := by simp [hi]
 rw [ckOGo, e]
set_option maxHeartbeats 8000000 in
set_option maxRecDepth 100000 in
theorem account_checkPolys (Q : Option Addr) (qc : Nat) (wd : Int) (polys : List (List Pt)) (w : World) (hps : Polys w Q polys) (hpl : ∀ p ∈ polys, p.length ≤ 1099511627776) (hn : polys.length ≤ 65536) (hqc : polys.length ≤ qc) :
  Calls Tryz.prog 39 #[.slice Q polys.length qc, .int .i64 wd] w (Ret (.int .i64 (ckPolysR polys wd)) w) := by
 have H1 := Lib.hid (show ckYGo wd polys ≠ 0 → ckPolysR polys wd = ckYGo wd polys from fun h => by unfold ckPolysR; rw [if_pos h])
 have H2 := Lib.hid (show ckYGo wd polys = 0 → ckPolysR polys wd = ckOGo polys polys.length 0 from fun h => by unfold ckPolysR; rw [if_neg (by simpa using h)])
 generalize ckPolysR polys wd = R at *
 go_enter Tryz.func39, Tryz.ntmps39
 go_upto_region 2 with fail
 go_loopw [17] (fun iv wr => ∃ k : Nat, k ≤ polys.length ∧ iv = .int .i64 k ∧ ckYGo wd polys = ckYGo wd (polys.drop k) ∧ Later w wr) (fun iv _ => polys.length - (intOf iv).toNat)
 case atStart => exact ⟨0, by omega, rfl, rfl, Later.refl _⟩
 case round =>
  obtain ⟨k, hk, rfl, he, hb⟩ := hrel
  have He := Lib.hid he
  clear he
  by_cases hlt : k < polys.length
  ·obtain ⟨bq, oq, A', c', rfl, k1, k2, k3⟩ := (hps.later hb).at_ hlt
   have Hd := Lib.hid (drop_cons' polys k hlt)
   have hpn := hpl _ (List.getElem_mem hlt)
   generalize polys[k] = ps at *
   have hbz : bq < wr.heap.size := World.block_lt_of_cell? _ _ k1
   have hk0 : (0 : Int) ≤ (k : Int) := by omega
   have hk1 : (k : Int) < (polys.length : Int) := by omega
   rcases Classical.em (checkI ps = 0) with hc | hc
   ·have HB := Lib.hid (fun W (hW : Later wr W) => polygon_Box_ok A' c' ps W hpn k2 (k3.later hW) hc)
    have hsm := lo_sm (small_of_check hc)
    have Hfar := Lib.hid (fun l h => ckY_far (W := wd) (l := l) hc h)
    have Hgood := Lib.hid (fun l h => ckY_good (W := wd) (l := l) hc h)
    clear hc
    generalize loOf ps = lo at *
    generalize hiOf ps = hi at *
    obtain ⟨lx, ly⟩ := lo
    obtain ⟨hx, hy⟩ := hi
    obtain ⟨⟨s1, s2⟩, ⟨s3, s4⟩⟩ := hsm
    unfold Sm at s1 s2 s3 s4
    simp only [] at s1 s2 s3 s4 HB Hfar Hgood
    have v1 : IntKind.i64.wrap (ly + (hy - ly)) = hy := by rw [show ly + (hy - ly) = hy by omega]; exact IntWalk.i64_in _ (by omega)
    by_cases hy0 : ly < 0
    ·have dx0 : decide (ly < 0) = true := by simpa using hy0
     have HRv := Lib.hid (show R = 13 by
      have e : ckYGo wd polys = 13 := by rw [He.out, Hd.out, Hfar.out _ (.inl hy0)]
      rw [H1.out (by rw [e]; decide), e])
     go_wp2_with (first | (go_at_call 10; (with_reducible refine (HB.out _ (Later.refl _)).mono ?_); rintro e w5 ⟨rfl, hb5⟩))
     go_ret
     exact ⟨ret_int HRv.out.symm, hb.trans (by repeat' (with_reducible first | exact .refl _ | assumption | refine .drew ?_ | refine .drewN ?_ _ | refine .alloc ?_ _ | refine .put ?_ (by omega) _ | refine .trans ?_ (by assumption)))⟩
    ·have dx0 : decide (ly < 0) = false := by simpa using hy0
     by_cases hy1 : wd < hy
     ·have dx1 : decide (wd < hy) = true := by simpa using hy1
      have HRv := Lib.hid (show R = 13 by
       have e : ckYGo wd polys = 13 := by rw [He.out, Hd.out, Hfar.out _ (.inr hy1)]
       rw [H1.out (by rw [e]; decide), e])
      go_wp2_with (first | (go_at_call 10; (with_reducible refine (HB.out _ (Later.refl _)).mono ?_); rintro e w5 ⟨rfl, hb5⟩))
      go_ret
      exact ⟨ret_int HRv.out.symm, hb.trans (by repeat' (with_reducible first | exact .refl _ | assumption | refine .drew ?_ | refine .drewN ?_ _ | refine .alloc ?_ _ | refine .put ?_ (by omega) _ | refine .trans ?_ (by assumption)))⟩
     ·have dx1 : decide (wd < hy) = false := by simpa using hy1
      go_wp2_with (first | (go_at_call 10; (with_reducible refine (HB.out _ (Later.refl _)).mono ?_); rintro e w5 ⟨rfl, hb5⟩))
      go_roundw
      case rel => exact ⟨k + 1, by omega, by go_num, by rw [He.out, Hd.out, Hgood.out _ (by omega)], hb.trans (by repeat' (with_reducible first | exact .refl _ | assumption | refine .drew ?_ | refine .drewN ?_ _ | refine .alloc ?_ _ | refine .put ?_ (by omega) _ | refine .trans ?_ (by assumption)))⟩
      case measure => simp [intOf]; omega
   ·have HB := Lib.hid (fun W (hW : Later wr W) => polygon_Box_err A' c' ps W hpn k2 (k3.later hW) hc)
    have hne : (checkI ps != 0) = true := by simpa using hc
    have HRv := Lib.hid (show R = checkI ps by
     have e : ckYGo wd polys = checkI ps := by rw [He.out, Hd.out, ckY_bad hc]
     rw [H1.out (by rw [e]; exact hc), e])
    clear hc
    generalize checkI ps = er at *
    go_wp2_with (first | (go_at_call 10; (with_reducible refine (HB.out _ (Later.refl _)).mono ?_); rintro e w5 ⟨rfl, hb5⟩))
    go_ret
    exact ⟨ret_int HRv.out.symm, hb.trans (by repeat' (with_reducible first | exact .refl _ | assumption | refine .drew ?_ | refine .drewN ?_ _ | refine .alloc ?_ _ | refine .put ?_ (by omega) _ | refine .trans ?_ (by assumption)))⟩
  ·have hy0 : ckYGo wd polys = 0 := by rw [He.out, List.drop_eq_nil_of_le (by omega)]; rfl
   have H3 := Lib.hid (H2.out hy0)
   clear hy0 H1 H2 He
   go_upto_region 11 with fail
   go_loopw [44] (fun iv wq => ∃ k : Nat, k ≤ polys.length ∧ iv = .int .i64 k ∧ R = ckOGo polys (polys.length - k) k ∧ Later w wq) (fun iv _ => polys.length - (intOf iv).toNat)
   case atStart => exact ⟨0, by omega, rfl, by rw [H3.out]; rfl, hb⟩
   case round =>
    clear hb hlt hk
    obtain ⟨k, hk, rfl, he, hb⟩ := hrel
    have He := Lib.hid he
    clear he H3
    by_cases hlt : k < polys.length
    ·obtain ⟨bq, oq, A', c', rfl, k1, k2, k3⟩ := (hps.later hb).at_ hlt
     have hpn := hpl _ (List.getElem_mem hlt)
     have hbz : bq < wr.heap.size := World.block_lt_of_cell? _ _ k1
     have hk0 : (0 : Int) ≤ (k : Int) := by omega
     have hk1 : (k : Int) < (polys.length : Int) := by omega
     have hkc : (k : Int) ≤ (qc : Int) := by omega
     have HE := Lib.hid (show R = if ckORow polys[k] (polys.take k) ≠ 0 then ckORow polys[k] (polys.take k) else ckOGo polys (polys.length - (k + 1)) (k + 1) by
      rw [He.out, show polys.length - k = (polys.length - (k + 1)) + 1 by omega]
      exact ckOGo_at hlt (by omega))
     generalize polys[k] = ps at *
     go_upto_region 14 with fail
     refine name_world (fun W4 hW4 => ?_)
     have hl4 : Later wr W4 := by rw [hW4]; exact (by repeat' (with_reducible first | exact .refl _ | assumption | refine .drew ?_ | refine .drewN ?_ _ | refine .alloc ?_ _ | refine .put ?_ (by omega) _ | refine .trans ?_ (by assumption)))
     clear hW4
     go_loopw [53] (fun jv wq => ∃ j : Nat, j ≤ k ∧ jv = .int .i64 j ∧ ckORow ps (polys.take k) = ckORow ps ((polys.take k).drop j) ∧ Later W4 wq) (fun jv _ => k - (intOf jv).toNat)
     case atStart => exact ⟨0, by omega, rfl, rfl, Later.refl _⟩
     case round =>
      obtain ⟨j, hj, rfl, hej, hbj⟩ := hrel
      have Hej := Lib.hid hej
      clear hej
      by_cases hjk : j < k
      ·obtain ⟨bq', oq', A2, c2, eQ, m1, m2, m3⟩ := (hps.later (hb.trans (hl4.trans hbj))).at_ (show j < polys.length by omega)
       cases eQ
       have hqn := hpl _ (List.getElem_mem (show j < polys.length by omega))
       have Hd := Lib.hid (show (polys.take k).drop j = polys[j] :: (polys.take k).drop (j + 1) by
        have h := drop_cons' (polys.take k) j (by rw [List.length_take]; omega)
        rw [h]; congr 1; exact List.getElem_take)
       generalize polys[j] = qs at *
       have hbz2 : bq < wr.heap.size := World.block_lt_of_cell? _ _ m1
       have hj0 : (0 : Int) ≤ (j : Int) := by omega
       have hj1 : (j : Int) < (k : Int) := by omega
       have k3' := (k3.later hl4).later hbj
       have HO := Lib.hid (fun W (hW : Later wr W) => overlap_Overlap (A := A') (B := A2) (ca := c') (cb := c2) (a := ps) (b := qs) (w := W) hpn k2 (k3'.later hW) hqn m2 (m3.later hW))
       have He1 := Lib.hid (fun l h => ckO_err (p := ps) (q := qs) (l := l) h)
       have He2 := Lib.hid (fun l h h1 => ckO_hit (p := ps) (q := qs) (l := l) h h1)
       have He3 := Lib.hid (fun l h h1 => ckO_miss (p := ps) (q := qs) (l := l) h h1)
       generalize overR ps qs = ov at *
       obtain ⟨ob, oe⟩ := ov
       simp only [] at HO He1 He2 He3
       rcases Classical.em (oe = 0) with h0 | h0
       ·subst h0
        rcases ob with _ | _
        ·go_wp2_with (first | (go_at_call 15; (with_reducible refine (HO.out _ (by repeat' (with_reducible first | exact .refl _ | assumption | refine .drew ?_ | refine .drewN ?_ _ | refine .alloc ?_ _ | refine .put ?_ (by omega) _ | refine .trans ?_ (by assumption)))).mono ?_); rintro e w6 ⟨rfl, hb6⟩))
         go_roundw
         case rel => exact ⟨j + 1, by omega, by go_num, by rw [Hej.out, Hd.out, He3.out _ (by first | trivial | rfl) (by first | trivial | rfl)], hbj.trans (by repeat' (with_reducible first | exact .refl _ | assumption | refine .drew ?_ | refine .drewN ?_ _ | refine .alloc ?_ _ | refine .put ?_ (by omega) _ | refine .trans ?_ (by assumption)))⟩
         case measure => simp [intOf]; omega
        ·have HRv := Lib.hid (show R = 14 by
          have e : ckORow ps (polys.take k) = 14 := by rw [Hej.out, Hd.out, He2.out _ (by first | trivial | rfl) (by first | trivial | rfl)]
          rw [HE.out, e, if_pos (by decide)])
         go_wp2_with (first | (go_at_call 15; (with_reducible refine (HO.out _ (by repeat' (with_reducible first | exact .refl _ | assumption | refine .drew ?_ | refine .drewN ?_ _ | refine .alloc ?_ _ | refine .put ?_ (by omega) _ | refine .trans ?_ (by assumption)))).mono ?_); rintro e w6 ⟨rfl, hb6⟩))
         go_ret
         exact ⟨ret_int HRv.out.symm, hb.trans (hl4.trans (hbj.trans (by repeat' (with_reducible first | exact .refl _ | assumption | refine .drew ?_ | refine .drewN ?_ _ | refine .alloc ?_ _ | refine .put ?_ (by omega) _ | refine .trans ?_ (by assumption)))))⟩
       ·have dn : (oe != 0) = true := by simpa using h0
        have HRv := Lib.hid (show R = oe by
         have e : ckORow ps (polys.take k) = oe := by rw [Hej.out, Hd.out, He1.out _ h0]
         rw [HE.out, e, if_pos h0])
        go_wp2_with (first | (go_at_call 15; (with_reducible refine (HO.out _ (by repeat' (with_reducible first | exact .refl _ | assumption | refine .drew ?_ | refine .drewN ?_ _ | refine .alloc ?_ _ | refine .put ?_ (by omega) _ | refine .trans ?_ (by assumption)))).mono ?_); rintro e w6 ⟨rfl, hb6⟩))
        go_ret
        exact ⟨ret_int HRv.out.symm, hb.trans (hl4.trans (hbj.trans (by repeat' (with_reducible first | exact .refl _ | assumption | refine .drew ?_ | refine .drewN ?_ _ | refine .alloc ?_ _ | refine .put ?_ (by omega) _ | refine .trans ?_ (by assumption)))))⟩
      ·have e0 : ckORow ps (polys.take k) = 0 := by rw [Hej.out, List.drop_eq_nil_of_le (by rw [List.length_take]; omega)]; rfl
       have HE2 := Lib.hid (show R = ckOGo polys (polys.length - (k + 1)) (k + 1) by rw [HE.out, e0, if_neg (by simp)])
       clear e0
       go_wp2
       go_roundw
       case rel => exact ⟨k + 1, by omega, by go_num, HE2.out, hb.trans (hl4.trans (hbj.trans (by repeat' (with_reducible first | exact .refl _ | assumption | refine .drew ?_ | refine .drewN ?_ _ | refine .alloc ?_ _ | refine .put ?_ (by omega) _ | refine .trans ?_ (by assumption)))))⟩
       case measure => simp [intOf]; omega
    ·have HRv := Lib.hid (show R = 0 by rw [He.out, show polys.length - k = 0 by omega]; rfl)
     go_wp2
     go_ret
     exact ⟨ret_int HRv.out.symm, hb.trans (by repeat' (with_reducible first | exact .refl _ | assumption | refine .drew ?_ | refine .drewN ?_ _ | refine .alloc ?_ _ | refine .put ?_ (by omega) _ | refine .trans ?_ (by assumption)))⟩
end Go.Proofs.YtdhakoecjmaebaaGreat
