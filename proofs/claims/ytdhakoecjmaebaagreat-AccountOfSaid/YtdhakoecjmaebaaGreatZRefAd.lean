/-
 Reference 40: Area, apart, Of return what the program returns.
-/
import Derived.Test.YtdhakoecjmaebaaGreatZAccD
import Derived.Test.YtdhakoecjmaebaaGreatZStepC
import Derived.Test.YtdhakoecjmaebaaGreatZRefPl
import Derived.Test.YtdhakoecjmaebaaGreatZAreR
import Derived.Test.YtdhakoecjmaebaaGreatZRefH
import Derived.BigQuiet
import Derived.StillTailTactics
namespace Go.Proofs.YtdhakoecjmaebaaGreat
open Go.RowKit
set_option linter.unusedSimpArgs false
set_option linter.unusedVariables false
theorem ref11_Area2 (A : Option Addr) (c : Nat) (ps : List Pt) (w : World) (hcap : ps.length ≤ c) (hp : Pts w A ps) (hck : checkI ps = 0) :
  Calls Tryz.prog 86 #[.slice A ps.length c] w (Ret (.int .i64 (areaI ps)) w) := by
 have h40 := len_of_check hck
 have HC := Lib.hid (fun W (hW : Later w W) => by
  have h := ref11_Check A c ps W (by omega) hcap (hp.later hW)
  rw [rcheck_eq, hck] at h
  exact h)
 have HT := Lib.hid (fun W (hW : Later w W) => ref11_Twice A c ps W (by omega) (hp.later hW) (small_of_check hck))
 go_enter Tryz.func86, Tryz.ntmps86
 go_wp2_with (first | (go_at_call 135; (with_reducible refine (HC.out _ (by repeat' (with_reducible first | exact .refl _ | assumption | refine .drew ?_ | refine .drewN ?_ _ | refine .alloc ?_ _ | refine .put ?_ (by omega) _ | refine .trans ?_ (by assumption)))).mono ?_); rintro e w1 ⟨rfl, hb1⟩) | (go_at_call 136; (with_reducible refine (HT.out _ (by repeat' (with_reducible first | exact .refl _ | assumption | refine .drew ?_ | refine .drewN ?_ _ | refine .alloc ?_ _ | refine .put ?_ (by omega) _ | refine .trans ?_ (by assumption)))).mono ?_); rintro e w2 ⟨rfl, hb2⟩))
 go_ret
 exact ⟨rfl, (by repeat' (with_reducible first | exact .refl _ | assumption | refine .drew ?_ | refine .drewN ?_ _ | refine .alloc ?_ _ | refine .put ?_ (by omega) _ | refine .trans ?_ (by assumption)))⟩
section
attribute [local go_sem] ite_min ite_max
theorem ref40_Area (A : Option Addr) (c : Nat) (ps : List Pt) (w : World) (hcap : ps.length ≤ c) (hp : Pts w A ps) (hck : checkI ps = 0) :
  Calls Tryz.prog 46 #[.slice A ps.length c] w (Ret (.int .i64 (arA ps)) w) := by
 have HT := Lib.hid (fun W (hW : Later w W) => ref11_Area2 A c ps W hcap (hp.later hW) hck)
 obtain ⟨b1, b2⟩ := area_bound hck
 have Hv := Lib.hid (show arA ps = max (areaI ps) (-(areaI ps)) from rfl)
 generalize areaI ps = a at *
 have v1 : IntKind.i64.wrap (-a) = -a := IntWalk.i64_in _ (by omega)
 go_enter Tryz.func46, Tryz.ntmps46
 go_wp2_with (first | (go_at_call 86; (with_reducible refine (HT.out _ (by repeat' (with_reducible first | exact .refl _ | assumption | refine .drew ?_ | refine .drewN ?_ _ | refine .alloc ?_ _ | refine .put ?_ (by omega) _ | refine .trans ?_ (by assumption)))).mono ?_); rintro e w2 ⟨rfl, hb2⟩))
 go_ret
 exact ⟨ret_int Hv.out.symm, (by repeat' (with_reducible first | exact .refl _ | assumption | refine .drew ?_ | refine .drewN ?_ _ | refine .alloc ?_ _ | refine .put ?_ (by omega) _ | refine .trans ?_ (by assumption)))⟩
end
set_option maxHeartbeats 8000000 in
set_option maxRecDepth 100000 in
theorem ref40_apart (Q S1 S2 : Option Addr) (qc n1 c1 n2 c2 : Nat) (len wd rx ry : Int) (polys : List (List Pt)) (w : World) (hps : Polys w Q polys) (hck : ∀ p ∈ polys, checkI p = 0) (hpn : polys.length ≤ 65536) :
  Calls Tryz.prog 43 #[.agg #[.int .i64 len, .int .i64 wd, .int .i64 rx, .int .i64 ry, .slice S1 n1 c1, .slice S2 n2 c2], .slice Q polys.length qc] w (Ret (.int .i64 (ckPolysR polys wd)) w) := by
 have Hout := Lib.hid (fun i (hi : i < polys.length) k (hk : k < polys[i].length) ho => ck_out (W := wd) hck hi hk ho)
 have Hover := Lib.hid (fun hin i (hi : i < polys.length) k (hk : k < i) ho => ck_over (W := wd) hck hin hi hk ho)
 have Hfine := Lib.hid (fun hin ho => ck_fine (W := wd) hck hin ho)
 have Hck := Lib.hid hck
 clear hck
 generalize ckPolysR polys wd = R at *
 go_enter Tryz.func43, Tryz.ntmps43
 go_upto_region 1 with fail
 refine name_world (fun W1 hW1 => ?_)
 have hl1 : Later w W1 := by rw [hW1]; exact (by repeat' (with_reducible first | exact .refl _ | assumption | refine .drew ?_ | refine .drewN ?_ _ | refine .alloc ?_ _ | refine .put ?_ (by omega) _ | refine .trans ?_ (by assumption)))
 have D1 : Blk W1 w.heap.size 62 #[.int .i64 len, .int .i64 wd, .int .i64 rx, .int .i64 ry, .slice S1 n1 c1, .slice S2 n2 c2] := by rw [hW1]; exact (by repeat' (with_reducible first | assumption | (refine Blk.newAt ?_; simp; done) | refine Blk.alloc ?_ _ | refine Blk.drew ?_ | refine Blk.drewN ?_ _ | refine Blk.later ?_ (by assumption)))
 clear hW1
 go_upto_region 2 with fail
 go_loopw [5] (fun iv wr => ∃ k : Nat, k ≤ polys.length ∧ iv = .int .i64 k ∧ Hid (∀ i (hi : i < polys.length), i < k → ∀ v ∈ polys[i], 0 ≤ v.y ∧ v.y ≤ wd) ∧ Later W1 wr) (fun iv _ => polys.length - (intOf iv).toNat)
 case atStart => exact ⟨0, by omega, rfl, Lib.hid (fun i hi h => by omega), Later.refl _⟩
 case round =>
  obtain ⟨k, hk, rfl, Hin, hb⟩ := hrel
  by_cases hlt : k < polys.length
  ·obtain ⟨bq, oq, A', c', rfl, k1, k2, k3⟩ := (hps.later (hl1.trans hb)).at_ hlt
   have hk0 : (0 : Int) ≤ (k : Int) := by omega
   have hk1 : (k : Int) < (polys.length : Int) := by omega
   have Ho := Lib.hid (Hout.out k hlt)
   have h40 := len_of_check (Hck.out _ (List.getElem_mem hlt))
   have Hk1 := Lib.hid (by obtain ⟨_, _, _, _, e, h, _⟩ := (hps.later hl1).at_ hlt; exact (by obtain ⟨b', o', A2, c2', e2, h1, _⟩ := (hps.later hl1).at_ hlt; cases e2; exact ⟨A2, c2', h1⟩ : ∃ A2 c2', W1.cell? ⟨bq, oq + k, none⟩ = some (.slice A2 polys[k].length c2')))
   have Hmem := Lib.hid (show ∀ v, v ∈ polys[k] → v ∈ polys[k] from fun v h => h)
   have Hst := Lib.hid (fun (h : ∀ v ∈ polys[k], 0 ≤ v.y ∧ v.y ≤ wd) => show ∀ i (hi : i < polys.length), i < k + 1 → ∀ v ∈ polys[i], 0 ≤ v.y ∧ v.y ≤ wd from fun i hi h1 => by
    by_cases e : i = k
    ·subst e; exact h
    ·exact Hin.out i hi (by omega))
   generalize polys[k] = p at *
   have zq := World.block_lt_of_cell? _ _ k1
   clear Hk1 Hmem
   have hq0 := hb
   go_upto_region 5 with fail
   obtain ⟨wo, rfl⟩ : ∃ wo : World, wo = wr := ⟨_, rfl⟩
   go_loopw [6] (fun jv wq => ∃ j : Nat, j ≤ p.length ∧ jv = .int .i64 j ∧ Hid (∀ i (hi : i < p.length), i < j → 0 ≤ p[i].y ∧ p[i].y ≤ wd) ∧ Later wo wq) (fun jv _ => p.length - (intOf jv).toNat)
   case atStart => exact ⟨0, by omega, rfl, Lib.hid (fun i hi h => by omega), Later.refl _⟩
   case round =>
    obtain ⟨j, hj, rfl, Hj, hbj⟩ := hrel
    have m1 := hbj.cell k1
    have zm := World.block_lt_of_cell? _ _ m1
    have hj0 : (0 : Int) ≤ (j : Int) := by omega
    by_cases hjl : j < p.length
    ·obtain ⟨b', o', rfl, hat⟩ := (k3.later hbj) (by omega)
     obtain ⟨y0, y1⟩ := hat.get hjl
     have zy := World.block_lt_of_cell? _ _ y1
     have hj1 : (j : Int) < (p.length : Int) := by omega
     have Hoj := Lib.hid (Ho.out j hjl)
     have Hsj := Lib.hid (fun (h : 0 ≤ p[j].y ∧ p[j].y ≤ wd) => show ∀ i (hi : i < p.length), i < j + 1 → 0 ≤ p[i].y ∧ p[i].y ≤ wd from fun i hi h1 => by
      by_cases e : i = j
      ·subst e; exact h
      ·exact Hj.out i hi (by omega))
     generalize p[j] = v at *
     obtain ⟨vx, vy⟩ := v
     simp only [] at y0 y1 Hoj Hsj
     have D1r := D1.later (hb.trans hbj)
     have d1 : wr.cell? ⟨w.heap.size, 1, none⟩ = some (.int .i64 wd) := D1r.cell 1
     have zd := D1r.lt
     by_cases hy0 : vy < 0
     ·have dy0 : decide (vy < 0) = true := by simpa using hy0
      have HRv := Lib.hid (Hoj.out (.inl hy0))
      go_upto_region 7 with fail
      go_quiet (fail)
      go_wp2
      go_ret
      exact ⟨ret_int HRv.out.symm, (hl1.trans (hb.trans hbj)).trans (by repeat' (with_reducible first | exact .refl _ | assumption | refine .drew ?_ | refine .drewN ?_ _ | refine .alloc ?_ _ | refine .put ?_ (by omega) _ | refine .trans ?_ (by assumption)))⟩
     ·have dy0 : decide (vy < 0) = false := by simpa using hy0
      by_cases hy1 : wd < vy
      ·have dy1 : decide (wd < vy) = true := by simpa using hy1
       have dy1' : decide (vy > wd) = true := by simpa using hy1
       have HRv := Lib.hid (Hoj.out (.inr hy1))
       go_upto_region 7 with fail
       go_quiet (fail)
       go_wp2
       go_ret
       exact ⟨ret_int HRv.out.symm, (hl1.trans (hb.trans hbj)).trans (by repeat' (with_reducible first | exact .refl _ | assumption | refine .drew ?_ | refine .drewN ?_ _ | refine .alloc ?_ _ | refine .put ?_ (by omega) _ | refine .trans ?_ (by assumption)))⟩
      ·have dy1 : decide (wd < vy) = false := by simpa using hy1
       have dy1' : decide (vy > wd) = false := by simpa using hy1
       go_upto_region 7 with fail
       go_quiet (fail)
       go_wp2
       go_roundw
       case rel => exact ⟨j + 1, by omega, by go_num, Lib.hid (Hsj.out (by omega)), hbj.trans (by repeat' (with_reducible first | exact .refl _ | assumption | refine .drew ?_ | refine .drewN ?_ _ | refine .alloc ?_ _ | refine .put ?_ (by omega) _ | refine .trans ?_ (by assumption)))⟩
       case measure => simp [intOf]; omega
    ·have HI := Lib.hid (Hst.out (fun v hv => by
      obtain ⟨i, hi, rfl⟩ := List.getElem_of_mem hv
      exact Hj.out i hi (by omega)))
     go_wp2
     go_roundw
     case rel => exact ⟨k + 1, by omega, by go_num, HI, (hb.trans hbj).trans (by repeat' (with_reducible first | exact .refl _ | assumption | refine .drew ?_ | refine .drewN ?_ _ | refine .alloc ?_ _ | refine .put ?_ (by omega) _ | refine .trans ?_ (by assumption)))⟩
     case measure => simp [intOf]; omega
  ·have hke : k = polys.length := by omega
   subst hke
   have Hall := Lib.hid (show ∀ p ∈ polys, ∀ v ∈ p, 0 ≤ v.y ∧ v.y ≤ wd from fun p hp => by
    obtain ⟨i, hi, rfl⟩ := List.getElem_of_mem hp
    exact Hin.out i hi (by omega))
   have Ho2 := Lib.hid (Hover.out Hall.out)
   have Hf2 := Lib.hid (Hfine.out Hall.out)
   clear Hin Hout Hover Hfine Hall hlt hk
   have hlo := hl1.trans hb
   obtain ⟨wo, rfl⟩ : ∃ wo : World, wo = wr := ⟨_, rfl⟩
   go_upto_region 10 with fail
   go_loopw [7] (fun iv wq => ∃ k : Nat, k ≤ polys.length ∧ iv = .int .i64 k ∧ Hid (∀ i (hi : i < polys.length), i < k → ∀ j (hj : j < i), (overR polys[j] polys[i]).1 = false) ∧ Later wo wq) (fun iv _ => polys.length - (intOf iv).toNat)
   case atStart => exact ⟨0, by omega, rfl, Lib.hid (fun i hi h => by omega), (by repeat' (with_reducible first | exact .refl _ | assumption | refine .drew ?_ | refine .drewN ?_ _ | refine .alloc ?_ _ | refine .put ?_ (by omega) _ | refine .trans ?_ (by assumption)))⟩
   case round =>
    obtain ⟨k, hk, rfl, Hin, hb2⟩ := hrel
    by_cases hlt : k < polys.length
    ·obtain ⟨bq, oq, A', c', rfl, k1, k2, k3⟩ := (hps.later (hlo.trans hb2)).at_ hlt
     have hk0 : (0 : Int) ≤ (k : Int) := by omega
     have hk1 : (k : Int) < (polys.length : Int) := by omega
     have h40 := len_of_check (Hck.out _ (List.getElem_mem hlt))
     have zq := World.block_lt_of_cell? _ _ k1
     have Hok := Lib.hid (Ho2.out k hlt)
     obtain ⟨pk, hpk⟩ : ∃ pk, polys[k] = pk := ⟨_, rfl⟩
     have Hpk := Lib.hid hpk
     rw [hpk] at k1 k2 k3 Hok h40
     clear hpk
     go_upto_region 13 with fail
     obtain ⟨wi, rfl⟩ : ∃ wi : World, wi = wr := ⟨_, rfl⟩
     go_loopw [8] (fun jv wq => ∃ j : Nat, j ≤ k ∧ jv = .int .i64 j ∧ Hid (∀ i (hi : i < k), i < j → (overR (polys[i]'(by omega)) pk).1 = false) ∧ Later wi wq) (fun jv _ => k - (intOf jv).toNat)
     case atStart => exact ⟨0, by omega, rfl, Lib.hid (fun i hi h => by omega), Later.refl _⟩
     case round =>
      obtain ⟨j, hj, rfl, Hj, hbj⟩ := hrel
      by_cases hjk : j < k
      ·have hjl : j < polys.length := by omega
       obtain ⟨bq', oq', A2, c2', eq', m1, m2, m3⟩ := (hps.later (hlo.trans (hb2.trans hbj))).at_ hjl
       cases eq'
       have n1 := hbj.cell k1
       have zn := World.block_lt_of_cell? _ _ n1
       have g40 := len_of_check (Hck.out _ (List.getElem_mem hjl))
       have hj0 : (0 : Int) ≤ (j : Int) := by omega
       have hj1 : (j : Int) < (k : Int) := by omega
       have hj2 : (j : Int) < (polys.length : Int) := by omega
       have HO := Lib.hid (fun W (hW : Later wr W) => by
        have h := ref15_Overlap A2 A' c2' c' polys[j] pk W (by omega) (by omega) m2 k2 (m3.later hW) ((k3.later hbj).later hW)
        rw [rover_eq] at h
        exact h)
       have Hoj := Lib.hid (Hok.out j hjk)
       have Hsj := Lib.hid (fun (h : (overR polys[j] pk).1 = false) => show ∀ i (hi : i < k), i < j + 1 → (overR (polys[i]'(by omega)) pk).1 = false from fun i hi h1 => by
        by_cases e : i = j
        ·subst e; exact h
        ·exact Hj.out i hi (by omega))
       generalize polys[j] = pj at *
       generalize overR pj pk = ov at *
       obtain ⟨ob, oe⟩ := ov
       simp only [] at HO Hoj Hsj
       rcases ob with _ | _
       ·go_upto_region 15 with fail
        go_region_held3 (fun w' : World => (∀ a : Addr, (wr.cell? a).isSome = true → w'.cell? a = wr.cell? a) ∧ Later wr w') (first | assumption | exact keep_call (by assumption) (by assumption) | exact keep_call (by assumption) ((Later.refl _).alloc _) | exact keep_init _ | exact ⟨Later.keeps (by assumption), by assumption⟩) (first | (go_at_call 84; (with_reducible refine (HO.out _ (by first | exact (Later.refl _).drew | exact (by assumption : _ ∧ Later wr _).2)).mono ?_); rintro e w1 ⟨rfl, hb1⟩))
        all_goals
         rename_i hHw
         go_wp2
         go_roundw
         case rel => exact ⟨j + 1, by omega, by go_num, Lib.hid (Hsj.out (by first | trivial | rfl)), hbj.trans hHw.2⟩
         case measure => simp [intOf]; omega
       ·have HRv := Lib.hid (Hoj.out (by first | trivial | rfl))
        go_upto_region 15 with fail
        go_region_held3 (fun w' : World => (∀ a : Addr, (wr.cell? a).isSome = true → w'.cell? a = wr.cell? a) ∧ Later wr w') (first | assumption | exact keep_call (by assumption) (by assumption) | exact keep_call (by assumption) ((Later.refl _).alloc _) | exact keep_init _ | exact ⟨Later.keeps (by assumption), by assumption⟩) (first | (go_at_call 84; (with_reducible refine (HO.out _ (by first | exact (Later.refl _).drew | exact (by assumption : _ ∧ Later wr _).2)).mono ?_); rintro e w1 ⟨rfl, hb1⟩))
        all_goals
         rename_i hHw
         go_wp2
         go_ret
         exact ⟨ret_int HRv.out.symm, hlo.trans (hb2.trans (hbj.trans hHw.2))⟩
      ·have HI := Lib.hid (show ∀ i (hi : i < polys.length), i < k + 1 → ∀ j (hj : j < i), (overR polys[j] polys[i]).1 = false from fun i hi h1 j' hj' => by
        by_cases e : i = k
        ·subst e
         rw [Hpk.out]
         exact Hj.out j' hj' (by omega)
        ·exact Hin.out i hi (by omega) j' hj')
       go_wp2
       go_roundw
       case rel => exact ⟨k + 1, by omega, by go_num, HI, (hb2.trans hbj).trans (by repeat' (with_reducible first | exact .refl _ | assumption | refine .drew ?_ | refine .drewN ?_ _ | refine .alloc ?_ _ | refine .put ?_ (by omega) _ | refine .trans ?_ (by assumption)))⟩
       case measure => simp [intOf]; omega
    ·have HRv := Lib.hid (Hf2.out (fun i hi j hj => Hin.out i hi (by omega) j hj))
     go_wp2
     go_ret
     exact ⟨ret_int HRv.out.symm, (hlo.trans hb2).trans (by repeat' (with_reducible first | exact .refl _ | assumption | refine .drew ?_ | refine .drewN ?_ _ | refine .alloc ?_ _ | refine .put ?_ (by omega) _ | refine .trans ?_ (by assumption)))⟩
end Go.Proofs.YtdhakoecjmaebaaGreat
