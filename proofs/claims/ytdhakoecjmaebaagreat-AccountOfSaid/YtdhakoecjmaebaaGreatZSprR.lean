/-
 The walk of spread.Check.
-/
import Derived.Test.YtdhakoecjmaebaaGreatZSprC
import Derived.Test.YtdhakoecjmaebaaGreatZAppR
import Derived.Test.YtdhakoecjmaebaaGreatZDam
import Derived.Test.YtdhakoecjmaebaaGreatZDTab
import Derived.Test.YtdhakoecjmaebaaGreatZSimEq
import Derived.Test.YtdhakoecjmaebaaGreatZSprQ
namespace Go.Proofs.YtdhakoecjmaebaaGreat
open Go.RowKit
set_option linter.unusedSimpArgs false
set_option linter.unusedVariables false
theorem ply_facts {len wd : Int} {polys : List (List Pt)} {rs : List Rl} {lots : List Int} {lot : Int} : ∀ {l : List Qd} {prev : Option Qd}, plyGo len wd polys rs lots lot prev l = 0 →
  ∀ p ∈ l, clothB p rs = true ∧ 0 ≤ p.d ∧ p.d ≤ len ∧ gL lots p.a.toNat = lot ∧ wd ≤ (grl rs p.a.toNat).wd := by
 intro l
 induction l with
 | nil => intro prev _ p hp; cases hp
 | cons q l ih =>
  intro prev h p hp
  rcases Classical.em (partErr len wd polys rs lots lot prev q = 0) with h0 | h0
  ·rw [ply_ok h0] at h
   rcases List.mem_cons.1 hp with rfl | hp
   ·unfold partErr at h0
    split at h0
    ·cases h0
    ·rename_i h1
     split at h0
     ·cases h0
     ·rename_i h2
      split at h0
      ·cases h0
      ·rename_i h3
       refine ⟨?_, by omega, by omega, by simpa using h2, by omega⟩
       rcases hc : clothB p rs with _ | _
       ·exact absurd (.inl hc) h1
       ·rfl
   ·exact ih h p hp
  ·rw [ply_bad h0] at h
   exact absurd h h0
theorem sc_cloth {len wd : Int} {polys : List (List Pt)} {rs : List Rl} {lots : List Int} {ys : List Pl} (h : chkClothR len wd polys rs lots.length ≠ 0) : scheckR len wd polys rs lots ys = chkClothR len wd polys rs lots.length := by unfold scheckR; rw [if_pos h]
theorem sc_long {len wd : Int} {polys : List (List Pt)} {rs : List Rl} {lots : List Int} {ys : List Pl} (h : chkClothR len wd polys rs lots.length = 0) (h1 : 40 < ys.length) : scheckR len wd polys rs lots ys = 5 := by unfold scheckR; rw [if_neg (by simpa using h), if_pos h1]
theorem sc_ply {len wd : Int} {polys : List (List Pt)} {rs : List Rl} {lots : List Int} {ys : List Pl} (h : chkClothR len wd polys rs lots.length = 0) (h1 : ¬ 40 < ys.length) (h2 : plysErr len wd polys rs lots ys ≠ 0) : scheckR len wd polys rs lots ys = plysErr len wd polys rs lots ys := by unfold scheckR; rw [if_neg (by simpa using h), if_neg h1, if_pos h2]
theorem sc_twice {len wd : Int} {polys : List (List Pt)} {rs : List Rl} {lots : List Int} {ys : List Pl} (h : chkClothR len wd polys rs lots.length = 0) (h1 : ¬ 40 < ys.length) (h2 : plysErr len wd polys rs lots ys = 0) (h3 : ¬ NoTwice (allQ ys)) : scheckR len wd polys rs lots ys = 14 := by unfold scheckR; rw [if_neg (by simpa using h), if_neg h1, if_neg (by simpa using h2), if_neg h3]
theorem sc_ok {len wd : Int} {polys : List (List Pt)} {rs : List Rl} {lots : List Int} {ys : List Pl} (h : chkClothR len wd polys rs lots.length = 0) (h1 : ¬ 40 < ys.length) (h2 : plysErr len wd polys rs lots ys = 0) (h3 : NoTwice (allQ ys)) : scheckR len wd polys rs lots ys = 0 := by unfold scheckR; rw [if_neg (by simpa using h), if_neg h1, if_neg (by simpa using h2), if_pos h3]
theorem allP_len {ys : List Py} {m : Nat} (h : ∀ y ∈ ys, y.parts.length ≤ m) : (allP ys).length ≤ ys.length * m := by
 unfold allP
 induction ys with
 | nil => simp
 | cons y l ih =>
  rw [List.flatMap_cons, List.length_append, List.length_cons, Nat.succ_mul]
  have := h y (List.mem_cons_self ..)
  have := ih (fun z hz => h z (List.mem_cons_of_mem _ hz))
  omega
set_option maxHeartbeats 4000000 in
set_option maxRecDepth 100000 in
theorem spread_Check (Q C L S1 S2 P : Option Addr) (qc cc lc n1 c1 n2 c2 pc : Nat) (len wd rx ry : Int) (polys : List (List Pt)) (rs : List Rl) (lots : List Int) (ys : List Py) (w : World)
  (hps : Polys w Q polys) (hpl : ∀ p ∈ polys, p.length ≤ 1099511627776) (hr : Rolls w C rs) (hrl : rs.length ≤ 1099511627776) (hL : Ints w L lots) (hll : lots.length ≤ 9223372036854775807) (hy : Plys w P ys) (hyl : ys.length ≤ 1099511627776) (hpart : ∀ y ∈ ys, y.parts.length ≤ 1000) :
  Calls Tryz.prog 38 #[.agg #[.int .i64 len, .int .i64 wd, .int .i64 rx, .int .i64 ry, .slice S1 n1 c1, .slice S2 n2 c2, .slice P ys.length pc], .slice Q polys.length qc, .slice C rs.length cc, .slice L lots.length lc] w
   (Ret (.int .i64 (scheckR len wd polys rs lots (ys.map Py.pl))) w) := by
 have HK := Lib.hid (fun W (hW : Later w W) => spread_checkCloth Q C L S1 S2 qc cc lc lots.length n1 c1 n2 c2 len wd rx ry polys rs W (hps.later hW) hpl (hr.later hW) hrl hll)
 have Hsc1 := Lib.hid (sc_cloth (len := len) (wd := wd) (polys := polys) (rs := rs) (lots := lots) (ys := ys.map Py.pl))
 have Hsc2 := Lib.hid (sc_long (len := len) (wd := wd) (polys := polys) (rs := rs) (lots := lots) (ys := ys.map Py.pl))
 have Hsc3 := Lib.hid (sc_ply (len := len) (wd := wd) (polys := polys) (rs := rs) (lots := lots) (ys := ys.map Py.pl))
 have Hsc4 := Lib.hid (sc_twice (len := len) (wd := wd) (polys := polys) (rs := rs) (lots := lots) (ys := ys.map Py.pl))
 have Hsc5 := Lib.hid (sc_ok (len := len) (wd := wd) (polys := polys) (rs := rs) (lots := lots) (ys := ys.map Py.pl))
 have Hcz := Lib.hid (cloth_zero (len := len) (wd := wd) (polys := polys) (rs := rs) (nl := lots.length))
 generalize scheckR len wd polys rs lots (ys.map Py.pl) = R at *
 generalize chkClothR len wd polys rs lots.length = er at *
 have Hsc2 := Lib.hid (show er = 0 → 40 < ys.length → R = 5 from fun h h1 => Hsc2.out h (by rw [List.length_map]; exact h1))
 have Hsc3 := Lib.hid (show er = 0 → ¬ 40 < ys.length → plysErr len wd polys rs lots (ys.map Py.pl) ≠ 0 → R = plysErr len wd polys rs lots (ys.map Py.pl) from fun h h1 => Hsc3.out h (by rw [List.length_map]; exact h1))
 have Hsc4 := Lib.hid (show er = 0 → ¬ 40 < ys.length → plysErr len wd polys rs lots (ys.map Py.pl) = 0 → ¬ NoTwice (allP ys) → R = 14 from fun h h1 h2 h3 => Hsc4.out h (by rw [List.length_map]; exact h1) h2 (by rw [allP_pl]; exact h3))
 have Hsc5 := Lib.hid (show er = 0 → ¬ 40 < ys.length → plysErr len wd polys rs lots (ys.map Py.pl) = 0 → NoTwice (allP ys) → R = 0 from fun h h1 h2 h3 => Hsc5.out h (by rw [List.length_map]; exact h1) h2 (by rw [allP_pl]; exact h3))
 rcases Classical.em (er = 0) with h0 | h0
 ·subst h0
  obtain ⟨hext, hcr, hw1, hw2⟩ := Hcz.out rfl
  obtain ⟨hl1, hl2, _⟩ := ext_zero hext
  obtain ⟨hr20, hrz, hnl⟩ := chkRolls_zero hcr
  have hln : ∀ r ∈ rs, r.ln ≤ 1048576 := fun r hr => (roll_ok (hrz r hr)).2.2.2.1.2
  have Hnl := Lib.hid hnl
  clear hnl hcr hrz hext Hcz
  by_cases h40 : 40 < ys.length
  ·have d40 : decide ((40 : Int) < (ys.length : Int)) = true := by simp; omega
   have HRv := Lib.hid (Hsc2.out (by first | trivial | rfl) h40)
   go_enter Tryz.func38, Tryz.ntmps38
   go_wp2_with (first | (go_at_call 76; (with_reducible refine (HK.out _ (by repeat' (with_reducible first | exact .refl _ | assumption | refine .drew ?_ | refine .drewN ?_ _ | refine .alloc ?_ _ | refine .put ?_ (by omega) _ | refine .trans ?_ (by assumption)))).mono ?_); rintro e w1 ⟨rfl, hb1⟩; have c6 : w1.cell? ⟨w.heap.size, 6, none⟩ = some (.slice P ys.length pc) := hb1.cell (by simp [go_sem])))
   go_ret
   exact ⟨ret_int HRv.out.symm, (by repeat' (with_reducible first | exact .refl _ | assumption | refine .drew ?_ | refine .drewN ?_ _ | refine .alloc ?_ _ | refine .put ?_ (by omega) _ | refine .trans ?_ (by assumption)))⟩
  ·have d40 : decide ((40 : Int) < (ys.length : Int)) = false := by simp; omega
   have h40' : ys.length ≤ 40 := by omega
   have HU := Lib.hid (fun (hcl : ∀ p ∈ allP ys, clothB p rs = true) W (hW : Later w W) => spread_used P C S1 S2 pc cc n1 c1 n2 c2 len wd rx ry ys rs W (hy.later hW) hcl (by omega) (by omega) (by have := allP_len hpart; omega))
   go_enter Tryz.func38, Tryz.ntmps38
   go_upto_region 6 with (first | (go_at_call 76; (with_reducible refine (HK.out _ (by repeat' (with_reducible first | exact .refl _ | assumption | refine .drew ?_ | refine .drewN ?_ _ | refine .alloc ?_ _ | refine .put ?_ (by omega) _ | refine .trans ?_ (by assumption)))).mono ?_); rintro e w1 ⟨rfl, hb1⟩; have c6 : w1.cell? ⟨w.heap.size, 6, none⟩ = some (.slice P ys.length pc) := hb1.cell (by simp [go_sem])))
   have D4 : Blk w1 w.heap.size 70 #[.int .i64 len, .int .i64 wd, .int .i64 rx, .int .i64 ry, .slice S1 n1 c1, .slice S2 n2 c2, .slice P ys.length pc] := Blk.later (by repeat' (with_reducible first | assumption | (refine Blk.newAt ?_; simp; done) | refine Blk.alloc ?_ _ | refine Blk.drew ?_ | refine Blk.drewN ?_ _ | refine Blk.later ?_ (by assumption))) hb1
   have hl1w : Later w w1 := (by repeat' (with_reducible first | exact .refl _ | assumption | refine .drew ?_ | refine .drewN ?_ _ | refine .alloc ?_ _ | refine .put ?_ (by omega) _ | refine .trans ?_ (by assumption)))
   clear hb1 HK d40
   generalize w.heap.size = g4 at *
   go_wp2
   go_loopw [31] (fun iv wr => ∃ k : Nat, k ≤ ys.length ∧ iv = .int .i64 k ∧ plysErr len wd polys rs lots (ys.map Py.pl) = plysErr len wd polys rs lots ((ys.drop k).map Py.pl) ∧ Later w1 wr) (fun iv _ => ys.length - (intOf iv).toNat)
   case atStart => exact ⟨0, by omega, rfl, rfl, Later.refl _⟩
   case round =>
    obtain ⟨k, hk, rfl, he, hb⟩ := hrel
    have He := Lib.hid he
    clear he
    have hlw : Later w wr := hl1w.trans hb
    have m0 : wr.cell? ⟨g4, 0, none⟩ = some (.int .i64 len) := hb.cell (D4.cell 0)
    have m1 : wr.cell? ⟨g4, 1, none⟩ = some (.int .i64 wd) := hb.cell (D4.cell 1)
    have m2 : wr.cell? ⟨g4, 2, none⟩ = some (.int .i64 rx) := hb.cell (D4.cell 2)
    have m3 : wr.cell? ⟨g4, 3, none⟩ = some (.int .i64 ry) := hb.cell (D4.cell 3)
    have m4 : wr.cell? ⟨g4, 4, none⟩ = some (.slice S1 n1 c1) := hb.cell (D4.cell 4)
    have m5 : wr.cell? ⟨g4, 5, none⟩ = some (.slice S2 n2 c2) := hb.cell (D4.cell 5)
    have m6 : wr.cell? ⟨g4, 6, none⟩ = some (.slice P ys.length pc) := hb.cell (D4.cell 6)
    have z4 : g4 < wr.heap.size := World.block_lt_of_cell? _ _ m0
    by_cases hlt : k < ys.length
    ·have hokw : PyOk w ys[k] := by obtain ⟨_, _, _, _, _, h⟩ := hy.at_ hlt; exact h
     obtain ⟨hpc, hpm, hqd, hqi⟩ := hokw
     obtain ⟨bb, ob, rfl, e1, e2, _⟩ := (hy.later hlw).at_ hlt
     have hbz : bb < wr.heap.size := World.block_lt_of_cell? _ _ e1
     have Hd := Lib.hid (drop_cons' ys k hlt)
     have hpn := hpart _ (List.getElem_mem hlt)
     generalize ys[k] = y at *
     obtain ⟨lot, pa, pc', parts⟩ := y
     simp only [] at e1 e2 hpc hpm hqd hpn Hd
     have HP := Lib.hid (fun W (hW : Later w W) => spread_checkPly Q C L S1 S2 pa qc cc lc n1 c1 n2 c2 pc' len wd rx ry lot polys rs lots parts W (hps.later hW) hpl (hr.later hW) hr20 (hL.later hW) Hnl.out (hqd.later hW) (by omega) ⟨hl1, hl2⟩ hln)
     have Hb := Lib.hid (fun l => plys_bad (len := len) (wd := wd) (polys := polys) (rs := rs) (lots := lots) (y := (lot, parts)) (l := l))
     have Hg := Lib.hid (fun l => plys_good (len := len) (wd := wd) (polys := polys) (rs := rs) (lots := lots) (y := (lot, parts)) (l := l))
     generalize plyR len wd polys rs lots (lot, parts) = pe at *
     have Hd2 := Lib.hid (show (ys.drop k).map Py.pl = (lot, parts) :: (ys.drop (k + 1)).map Py.pl by rw [Hd.out]; rfl)
     rcases Classical.em (pe = 0) with h0 | h0
     ·subst h0
      go_wp2_with (first | (go_at_call 77; (with_reducible refine (HP.out _ (hlw.trans (by repeat' (with_reducible first | exact .refl _ | assumption | refine .drew ?_ | refine .drewN ?_ _ | refine .alloc ?_ _ | refine .put ?_ (by omega) _ | refine .trans ?_ (by assumption))))).mono ?_); rintro e w5 ⟨rfl, hb5⟩))
      go_roundw
      case rel => exact ⟨k + 1, by omega, by go_num, by rw [He.out, Hd2.out, Hg.out _ (by first | trivial | rfl)], hb.trans (by repeat' (with_reducible first | exact .refl _ | assumption | refine .drew ?_ | refine .drewN ?_ _ | refine .alloc ?_ _ | refine .put ?_ (by omega) _ | refine .trans ?_ (by assumption)))⟩
      case measure => simp [intOf]; omega
     ·have dn : (pe != 0) = true := by simpa using h0
      have HRv := Lib.hid (show R = pe by
       have e : plysErr len wd polys rs lots (ys.map Py.pl) = pe := by rw [He.out, Hd2.out, Hb.out _ h0]
       rw [Hsc3.out (by first | trivial | rfl) h40 (by rw [e]; exact h0), e])
      go_wp2_with (first | (go_at_call 77; (with_reducible refine (HP.out _ (hlw.trans (by repeat' (with_reducible first | exact .refl _ | assumption | refine .drew ?_ | refine .drewN ?_ _ | refine .alloc ?_ _ | refine .put ?_ (by omega) _ | refine .trans ?_ (by assumption))))).mono ?_); rintro e w5 ⟨rfl, hb5⟩))
      go_ret
      exact ⟨ret_int HRv.out.symm, hlw.trans (by repeat' (with_reducible first | exact .refl _ | assumption | refine .drew ?_ | refine .drewN ?_ _ | refine .alloc ?_ _ | refine .put ?_ (by omega) _ | refine .trans ?_ (by assumption)))⟩
    ·have hpz : plysErr len wd polys rs lots (ys.map Py.pl) = 0 := by rw [He.out, List.drop_eq_nil_of_le (by omega)]; rfl
     have hcl : ∀ p ∈ allP ys, clothB p rs = true := by
      intro p hp
      obtain ⟨y, hy', hp⟩ := List.mem_flatMap.1 hp
      exact (ply_facts (plys_all.1 hpz (y.lot, y.parts) (List.mem_map.2 ⟨y, hy', rfl⟩)) p hp).1
     have HUU := Lib.hid (HU.out hcl)
     have Hpz := Lib.hid hpz
     clear hpz hcl
     by_cases hnt : NoTwice (allP ys)
     ·have HRv := Lib.hid (Hsc5.out (by first | trivial | rfl) h40 Hpz.out hnt)
      have Hnt := Lib.hid hnt
      clear hnt
      go_wp2_with (first | (go_at_call 78; (with_reducible refine (HUU.out _ hlw).mono ?_); rintro e w5 (⟨_, T, vs, rfl, _, _, hb5⟩ | ⟨h, _⟩); rotate_left; exact absurd Hnt.out h))
      go_ret
      exact ⟨ret_int HRv.out.symm, hlw.trans hb5⟩
     ·have HRv := Lib.hid (Hsc4.out (by first | trivial | rfl) h40 Hpz.out hnt)
      have Hnt := Lib.hid hnt
      clear hnt
      go_wp2_with (first | (go_at_call 78; (with_reducible refine (HUU.out _ hlw).mono ?_); rintro e w5 (⟨h, _⟩ | ⟨_, rfl, hb5⟩); exact absurd h Hnt.out))
      go_ret
      exact ⟨ret_int HRv.out.symm, hlw.trans hb5⟩
 ·have dn : (er != 0) = true := by simpa using h0
  have HRv := Lib.hid (Hsc1.out h0)
  go_enter Tryz.func38, Tryz.ntmps38
  go_wp2_with (first | (go_at_call 76; (with_reducible refine (HK.out _ (by repeat' (with_reducible first | exact .refl _ | assumption | refine .drew ?_ | refine .drewN ?_ _ | refine .alloc ?_ _ | refine .put ?_ (by omega) _ | refine .trans ?_ (by assumption)))).mono ?_); rintro e w1 ⟨rfl, hb1⟩))
  go_ret
  exact ⟨ret_int HRv.out.symm, (by repeat' (with_reducible first | exact .refl _ | assumption | refine .drew ?_ | refine .drewN ?_ _ | refine .alloc ?_ _ | refine .put ?_ (by omega) _ | refine .trans ?_ (by assumption)))⟩
end Go.Proofs.YtdhakoecjmaebaaGreat
namespace Go.Proofs.YtdhakoecjmaebaaGreat
open Go.RowKit
set_option linter.unusedSimpArgs false
set_option linter.unusedVariables false
def bare (r : Rl) : Rl := ⟨r.id, r.wd, r.ln, r.tl, r.ta, r.tb, none, 0, []⟩
end Go.Proofs.YtdhakoecjmaebaaGreat
namespace Go.Proofs.YtdhakoecjmaebaaGreat
open Go.RowKit
set_option linter.unusedSimpArgs false
set_option linter.unusedVariables false
theorem hits_err (ps : List Pt) (x y ww h : Int) : (hitsR ps x y ww h).2 = (splitR ps).2 := by
 unfold hitsR
 by_cases hs : (splitR ps).2 = 0
 ·rw [if_neg (by simpa using hs), hs]
  split
  ·rfl
  ·split <;> rfl
 ·rw [if_pos hs]
def hitF (ps : List Pt) (d : Int) (f : Qd) : Bool := (hitsR ps (f.a + d) f.b f.c f.d).1
theorem flawGo_ok {ps : List Pt} {d : Int} (h : (splitR ps).2 = 0) : ∀ l, flawGo ps d l = (l.any (hitF ps d), 0) := by
 intro l
 induction l with
 | nil => rfl
 | cons f l ih =>
  rw [flawGo, if_neg (by rw [hits_err]; simpa using h)]
  by_cases hf : (hitsR ps (f.a + d) f.b f.c f.d).1 = true
  ·rw [if_pos hf, List.any_cons, hitF, hf]; rfl
  ·rw [if_neg hf, ih, List.any_cons, hitF]
   have : (hitsR ps (f.a + d) f.b f.c f.d).1 = false := by simpa using hf
   rw [this]; rfl
theorem hitR_at {qs : List Qd} {rs : List Rl} {ps : List Pt} {j n : Nat} (hj : j < qs.length) (hn : n < rs.length) (hok : carrierR qs ps = ((j : Int), 0)) (ha : (qs[j]).a = (n : Int)) (hr : rollI (rs[n]) = 0) :
  hitR qs rs ps = flawGo ps ((qs[j]).d - (qs[j]).b) (rs[n]).fl := by
 unfold hitR
 have hg : gq qs (carrierR qs ps).1.toNat = qs[j] := by rw [hok, Int.toNat_natCast, gq]; simp [hj]
 rw [hg, hok, if_neg (by simp), if_neg (by rw [ha]; omega), ha]
 have hg2 : gr rs ((n : Int)).toNat = rs[n] := by rw [Int.toNat_natCast, gr]; simp [hn]
 rw [hg2, rollHit, if_neg (by simpa using hr)]
def withFl (r : Rl) (A : Option Addr) (c : Nat) (fl : List Qd) : Rl := ⟨r.id, r.wd, r.ln, r.tl, r.ta, r.tb, A, c, fl⟩
theorem baseI_with (r : Rl) (A : Option Addr) (c : Nat) (fl : List Qd) : baseI (withFl r A c fl) = baseI r := rfl
theorem rollI_with {r : Rl} (h : rollI r = 0) {A : Option Addr} {c : Nat} {fl : List Qd} (hl : fl.length ≤ 20) (hs : ∀ q ∈ fl, q ∈ r.fl) : rollI (withFl r A c fl) = 0 := by
 obtain ⟨hb, _, hf, _⟩ := roll_ok h
 unfold rollI
 rw [baseI_with, hb, if_neg (by simp), if_neg (show ¬ 20 < (withFl r A c fl).fl.length by show ¬ 20 < fl.length; omega)]
 have : flawsBad (withFl r A c fl).ln (withFl r A c fl).wd (withFl r A c fl).fl = false := flawsBad_all.2 fun q hq => flawsBad_all.1 hf q (hs q hq)
 rw [this]
 rfl
end Go.Proofs.YtdhakoecjmaebaaGreat
namespace Go.Proofs.YtdhakoecjmaebaaGreat
open Go.RowKit
set_option linter.unusedSimpArgs false
set_option linter.unusedVariables false
theorem rowErr_zero {qs : List Qd} {rs : List Rl} : ∀ {l : List (List Pt)}, rowErr qs rs l = 0 ↔ ∀ q ∈ l, (hitR qs rs q).2 = 0 := by
 intro l
 induction l with
 | nil => simp [rowErr]
 | cons p l ih =>
  rw [rowErr]
  by_cases h : (hitR qs rs p).2 = 0
  ·rw [if_neg (by simpa using h), ih]
   constructor
   ·intro k q hq
    rcases List.mem_cons.1 hq with rfl | k2
    ·exact h
    ·exact k q k2
   ·intro k q hq; exact k q (by simp [hq])
  ·rw [if_pos h]
   exact ⟨fun k => absurd k h, fun k => absurd (k p (by simp)) h⟩
theorem tabErr_zero {rs : List Rl} {polys : List (List Pt)} : ∀ {ys : List Py}, tabErr rs polys ys = 0 ↔ ∀ y ∈ ys, ∀ q ∈ polys, (hitR y.parts rs q).2 = 0 := by
 intro ys
 induction ys with
 | nil => simp [tabErr]
 | cons y l ih =>
  rw [tabErr]
  by_cases h : rowErr y.parts rs polys = 0
  ·rw [if_neg (by simpa using h), ih]
   constructor
   ·intro k z hz
    rcases List.mem_cons.1 hz with rfl | k2
    ·exact rowErr_zero.1 h
    ·exact k z k2
   ·intro k z hz; exact k z (by simp [hz])
  ·rw [if_pos h]
   exact ⟨fun k => absurd k h, fun k => absurd (rowErr_zero.2 (k y (by simp))) h⟩
end Go.Proofs.YtdhakoecjmaebaaGreat
namespace Go.Proofs.YtdhakoecjmaebaaGreat
open Go.RowKit
set_option linter.unusedSimpArgs false
set_option linter.unusedVariables false
theorem scheck_zero {len wd : Int} {polys : List (List Pt)} {rs : List Rl} {lots : List Int} {ys : List Pl} (h : scheckR len wd polys rs lots ys = 0) : chkClothR len wd polys rs lots.length = 0 ∧ ys.length ≤ 40 ∧ plysErr len wd polys rs lots ys = 0 ∧ NoTwice (allQ ys) := by
 unfold scheckR at h
 split at h
 ·rename_i h1; exact absurd h h1
 ·rename_i h1
  split at h
  ·cases h
  ·rename_i h2
   split at h
   ·rename_i h3; exact absurd h h3
   ·rename_i h3
    split at h
    ·rename_i h4; exact ⟨by simpa using h1, by omega, by simpa using h3, h4⟩
    ·cases h
theorem ply_whole {len wd : Int} {polys : List (List Pt)} {rs : List Rl} {lots : List Int} {lot : Int} (he : (extentsR len polys).2 = 0) {z : Pt} (hz : z ∈ (extentsR len polys).1) (h0 : 0 ≤ z.x) (hl : z.y ≤ len) :
  ∀ {l : List Qd} {prev : Option Qd}, plyGo len wd polys rs lots lot prev l = 0 → (∀ q, prev = some q → endQ q < z.y) → ∃ p ∈ l, p.d ≤ z.x ∧ z.y ≤ endQ p := by
 intro l
 induction l with
 | nil =>
  intro prev h hq
  cases prev with
  | none => cases h
  | some q =>
   rw [plyGo] at h
   split at h
   ·cases h
   ·rename_i hn
    have := hq q rfl
    omega
 | cons p l ih =>
  intro prev h hq
  have hpe : partErr len wd polys rs lots lot prev p = 0 := by
   rcases Classical.em (partErr len wd polys rs lots lot prev p = 0) with k | k
   ·exact k
   ·rw [ply_bad k] at h; exact absurd h k
  have hd : p.d ≤ z.x := by
   unfold partErr at hpe
   split at hpe
   ·cases hpe
   ·split at hpe
    ·cases hpe
    ·split at hpe
     ·cases hpe
     ·cases prev with
      | none =>
       simp only [] at hpe
       split at hpe
       ·cases hpe
       ·omega
      | some q =>
       simp only [] at hpe
       split at hpe
       ·rename_i hj
        unfold joinsB at hj
        split at hj
        ·cases hj
        ·rw [Bool.and_eq_true, beq_iff_eq, decide_eq_true_eq] at hj
         obtain ⟨_, b1, b2, b3⟩ := back_zero hj.1
         have := (back_spec (extentsR len polys).1 (endQ q)).1 z hz (hq q rfl)
         omega
       ·cases hpe
  by_cases hy : z.y ≤ endQ p
  ·exact ⟨p, List.mem_cons_self .., hd, hy⟩
  ·rw [ply_ok hpe] at h
   obtain ⟨q, hq', k⟩ := ih h (fun q e => by cases e; omega)
   exact ⟨q, List.mem_cons_of_mem _ hq', k⟩
theorem carrier_found {lo hi : Int} : ∀ {l : List Qd} {k : Nat}, (∃ p ∈ l, carriesB p lo hi = true) → (carrierGo lo hi l k).2 = 0 := by
 intro l
 induction l with
 | nil => rintro k ⟨p, hp, _⟩; cases hp
 | cons q l ih =>
  rintro k ⟨p, hp, hc⟩
  rw [carrierGo]
  split
  ·rfl
  ·rename_i hn
   rcases List.mem_cons.1 hp with rfl | hp
   ·exact absurd hc hn
   ·exact ih ⟨p, hp, hc⟩
structure Carried (rs : List Rl) (lots : List Int) (y : Py) (q : List Pt) (j n : Nat) : Prop where
 ck : checkI q = 0
 jl : j < y.parts.length
 nl : n < lots.length
 car : carrierR y.parts q = ((j : Int), 0)
 roll : (gq y.parts j).a = (n : Int)
 lot : gL lots n = y.lot
 carry : carriesB (gq y.parts j) (loOf q).x (hiOf q).x = true
 hit : (hitR y.parts rs q).2 = 0
theorem gq_at {qs : List Qd} {j : Nat} (h : j < qs.length) : gq qs j = qs[j] := by unfold gq; simp [h]
theorem carried {len wd : Int} {polys : List (List Pt)} {rs : List Rl} {lots : List Int} {ys : List Py} (h : scheckR len wd polys rs lots (ys.map Py.pl) = 0) : ∀ y ∈ ys, ∀ q ∈ polys, ∃ j n, Carried rs lots y q j n := by
 intro y hy q hq
 obtain ⟨hc, _, hpz, _⟩ := scheck_zero h
 obtain ⟨hext, hcr, _, _⟩ := cloth_zero hc
 obtain ⟨hr20, hrz, hnl⟩ := chkRolls_zero hcr
 obtain ⟨hl1, hl2, _⟩ := ext_zero hext
 obtain ⟨e1, e2⟩ := ext_zones hext
 obtain ⟨c1, c2, c3⟩ := e2 q hq
 have hpy : plyGo len wd polys rs lots y.lot none y.parts = 0 := plys_all.1 hpz (y.lot, y.parts) (List.mem_map.2 ⟨y, hy, rfl⟩)
 have hz : (⟨(loOf q).x, (hiOf q).x⟩ : Pt) ∈ (extentsR len polys).1 := by rw [e1]; exact List.mem_map.2 ⟨q, hq, rfl⟩
 obtain ⟨p, hp, k1, k2⟩ := ply_whole hext hz c2 c3 hpy (fun q e => by cases e)
 simp only [] at k1 k2
 obtain ⟨f1, f2, f3, f4, f5⟩ := ply_facts hpy p hp
 obtain ⟨b1, b2, b3, b4, b5⟩ := clothB_in f1
 have hln : (grl rs p.a.toNat).ln ≤ 1048576 := by
  rw [grl_eq (by omega)]
  exact (roll_ok (hrz _ (List.getElem_mem _))).2.2.2.1.2
 have hcar : carriesB p (loOf q).x (hiOf q).x = true := by
  unfold carriesB coordB
  unfold endQ at k2
  simp only [Bool.and_eq_true, decide_eq_true_eq]
  omega
 have hz2 : (carrierR y.parts q).2 = 0 := by
  unfold carrierR
  rw [if_pos c1]
  exact carrier_found ⟨p, hp, hcar⟩
 obtain ⟨_, j, j1, jl, jc⟩ := carrier_ok hz2
 have hok : carrierR y.parts q = ((j : Int), 0) := by rw [← j1, ← hz2]
 obtain ⟨g1, g2, g3, g4, g5⟩ := ply_facts hpy _ (List.getElem_mem jl)
 obtain ⟨a1, a2, a3, a4, a5⟩ := clothB_in g1
 obtain ⟨n, hn⟩ : ∃ n : Nat, (y.parts[j]).a = (n : Int) := ⟨(y.parts[j]).a.toNat, by omega⟩
 have hnr : n < rs.length := by omega
 have hs : (splitR q).2 = 0 := by rw [splitR_err]; exact c1
 refine ⟨j, n, c1, jl, by omega, hok, by rw [gq_at jl]; exact hn, by rw [hn, Int.toNat_natCast] at g4; exact g4, by rw [gq_at jl]; exact jc, ?_⟩
 rw [hitR_at jl hnr hok hn (hrz _ (List.getElem_mem hnr)), flawGo_ok hs]
theorem carried_tab {len wd : Int} {polys : List (List Pt)} {rs : List Rl} {lots : List Int} {ys : List Py} (h : scheckR len wd polys rs lots (ys.map Py.pl) = 0) : tabErr rs polys ys = 0 := by
 rw [tabErr_zero]
 intro y hy q hq
 obtain ⟨_, _, k⟩ := carried h y hy q hq
 exact k.hit
end Go.Proofs.YtdhakoecjmaebaaGreat
namespace Go.Proofs.YtdhakoecjmaebaaGreat
open Go.RowKit
set_option linter.unusedSimpArgs false
set_option linter.unusedVariables false
def expandL : List Int → Nat → List Int
 | [], _ => []
 | n :: l, j => List.replicate n.toNat (j : Int) ++ expandL l (j + 1)
def lenQ (l : List Qd) : Int := (l.map fun q => q.c - q.b).sum
def lenZ (l : List Pt) : Int := (l.map fun z => z.y - z.x).sum
theorem lenZ_cons (z : Pt) (l : List Pt) : lenZ (z :: l) = (z.y - z.x) + lenZ l := by simp [lenZ]
def lnSum (rs : List Rl) : Int := (rs.map (·.ln)).sum
def restPart (q : Qd) : Qd := ⟨q.a, q.c, q.d, 0⟩
end Go.Proofs.YtdhakoecjmaebaaGreat
