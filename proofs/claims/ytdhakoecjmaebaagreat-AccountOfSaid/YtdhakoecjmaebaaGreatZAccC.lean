/-
 account.Rolls: how much of each roll a lay uses.
-/
import Derived.Test.YtdhakoecjmaebaaGreatZAccA
import Derived.Test.YtdhakoecjmaebaaGreatZSprG
import Derived.Test.YtdhakoecjmaebaaGreatZStepC
import Derived.BigQuiet
namespace Go.Proofs.YtdhakoecjmaebaaGreat
open Go.RowKit
set_option linter.unusedSimpArgs false
set_option linter.unusedVariables false
def accRollsR (rs : List Rl) (lots : List Int) (ys : List Py) : List Int × Int := if (restsR rs lots (ys.map Py.pl)).2 ≠ 0 then ([], (restsR rs lots (ys.map Py.pl)).2) else (usedR rs.length (allP ys), 0)
def UseRPost (R : List Int × Int) (w : World) (e : Ending) (w' : World) : Prop :=
 ∃ A c, e = .returned (.tuple #[.slice A R.1.length c, .int .i64 R.2]) ∧ OwnR w' w.heap.size 3 1 i1 (.slice A R.1.length c) R.1 ∧ Later w w'
theorem used_bd {parts : List Qd} (h : ∀ p ∈ parts, 0 ≤ p.c - p.b ∧ p.c - p.b ≤ 1048576) (i : Int) : 0 ≤ lenZ (zonesOf i parts) ∧ lenZ (zonesOf i parts) ≤ 1048576 * (parts.length : Int) := by
 induction parts with
 | nil => exact ⟨Int.le_refl _, Int.le_refl _⟩
 | cons p l ih =>
  obtain ⟨h1, h2⟩ := ih (fun q hq => h q (List.mem_cons_of_mem _ hq))
  have hp := h p (List.mem_cons_self ..)
  rw [zones_cons, List.length_cons]
  split
  ·rw [List.singleton_append, lenZ_cons]
   simp only []
   omega
  ·rw [List.nil_append]
   omega
theorem made_ints (n : Nat) : (madeCells #[Value.int .i64 0] n).toList = (List.replicate n (0 : Int)).flatMap i1 := by
 have h : (List.replicate n (0 : Int)).flatMap i1 = List.replicate n (.int .i64 0) := by
  induction n with
  | zero => rfl
  | succ n ih => rw [List.replicate_succ, List.flatMap_cons, ih, List.replicate_succ]; rfl
 rw [h]
 unfold madeCells
 refine List.ext_getElem (by simp) fun i h1 h2 => ?_
 simp [Nat.mod_one]
theorem info_int : (Tryz.prog.info? 3).map (fun i => (i.zero, i.size, i.bytes)) = some (some (.int .i64 0), 1, 8) := by kernel_rfl
theorem rests_zero {rs : List Rl} {lots : List Int} {ys : List Pl} (h : (restsR rs lots ys).2 = 0) : ys.length ≤ 40 ∧ (∀ p ∈ allQ ys, clothB p rs = true) ∧ ∀ r ∈ rs, rollI r = 0 := by
 unfold restsR at h
 split at h
 ·rename_i h1; exact absurd h h1
 ·rename_i h1
  obtain ⟨_, hr, _⟩ := chkRolls_zero (by simpa using h1 : chkRollsR rs lots.length = 0)
  split at h
  ·cases h
  ·rename_i h2
   split at h
   ·cases h
   ·rename_i h3
    refine ⟨by omega, ?_, hr⟩
    have h4 : (allQ ys).all (fun p => clothB p rs) = true := by
     rcases hc : (allQ ys).all (fun p => clothB p rs) with _ | _
     ·exact absurd hc h3
     ·rfl
    exact fun p hp => List.all_eq_true.1 h4 p hp
set_option maxHeartbeats 8000000 in
set_option maxRecDepth 100000 in
theorem account_Rolls (C L S1 S2 P : Option Addr) (cc lc n1 c1 n2 c2 pc : Nat) (l0 l1 l2 l3 : Int) (rs : List Rl) (lots : List Int) (ys : List Py) (w : World)
  (hr : Rolls w C rs) (hrl : rs.length ≤ 65536) (hL : Ints w L lots) (hll : lots.length ≤ 9223372036854775807) (hy : Plys w P ys) (hyl : ys.length ≤ 1099511627776) (hpart : ∀ y ∈ ys, y.parts.length ≤ 50) :
  Calls Tryz.prog 37 #[.agg #[.int .i64 l0, .int .i64 l1, .int .i64 l2, .int .i64 l3, .slice S1 n1 c1, .slice S2 n2 c2, .slice P ys.length pc], .slice C rs.length cc, .slice L lots.length lc] w
   (UseRPost (accRollsR rs lots ys) w) := by
 have HR := Lib.hid (fun W (hW : Later w W) => spread_Rests C L S1 S2 P cc lc n1 c1 n2 c2 pc l0 l1 l2 l3 rs lots ys W (hr.later hW) (by omega) (hL.later hW) hll (hy.later hW) hyl hpart)
 have H0 := Lib.hid (rests_zero (rs := rs) (lots := lots) (ys := ys.map Py.pl))
 unfold accRollsR
 rw [allP_pl] at H0
 generalize restsR rs lots (ys.map Py.pl) = RR at *
 obtain ⟨ql, er⟩ := RR
 simp only [] at HR H0 ⊢
 rcases Classical.em (er = 0) with h0 | h0
 ·subst h0
  rw [if_neg (by simp)]
  obtain ⟨h40, hcl, hrz⟩ := H0.out rfl
  rw [List.length_map] at h40
  have hbd : ∀ p ∈ allP ys, 0 ≤ p.a ∧ p.a < (rs.length : Int) ∧ 0 ≤ p.b ∧ p.b < p.c ∧ p.c ≤ 1048576 := fun p hp => by
   obtain ⟨a1, a2, a3, a4, a5⟩ := clothB_in (hcl p hp)
   rw [grl_eq (by omega)] at a5
   have := (roll_ok (hrz _ (List.getElem_mem (show p.a.toNat < rs.length by omega)))).2.2.2.1
   omega
  have HB := Lib.hid hbd
  clear hbd hcl hrz H0
  obtain ⟨i0, hi, hz0, hz1, hz2⟩ := info_parts info_int
  have hmk := fun W => run_make_rows (P := Tryz.prog) 32 3 i0 _ Tryz.underlying32 hi hz0 rs.length (by rw [hz2]; omega) (by omega) W
  rw [hz1] at hmk
  simp only [Nat.mul_one] at hmk
  clear hi hz0 hz1 hz2
  go_enter Tryz.func37, Tryz.ntmps37
  go_upto_region 4 with (first | (go_at_call 75; (with_reducible refine (HR.out _ (by repeat' (with_reducible first | exact .refl _ | assumption | refine .drew ?_ | refine .drewN ?_ _ | refine .alloc ?_ _ | refine .put ?_ (by omega) _ | refine .trans ?_ (by assumption)))).mono ?_); rintro e w2 ⟨A2, c2', rfl, _, hb2⟩))
  have D2 : Blk w2 w.heap.size 70 #[.int .i64 l0, .int .i64 l1, .int .i64 l2, .int .i64 l3, .slice S1 n1 c1, .slice S2 n2 c2, .slice P ys.length pc] := Blk.later (by repeat' (with_reducible first | assumption | (refine Blk.newAt ?_; simp; done) | refine Blk.alloc ?_ _ | refine Blk.drew ?_ | refine Blk.drewN ?_ _ | refine Blk.later ?_ (by assumption))) hb2
  have hl2 : Later w w2 := (by repeat' (with_reducible first | exact .refl _ | assumption | refine .drew ?_ | refine .drewN ?_ _ | refine .alloc ?_ _ | refine .put ?_ (by omega) _ | refine .trans ?_ (by assumption)))
  clear hb2 HR
  have k6 : w2.cell? ⟨w.heap.size, 6, none⟩ = some (.slice P ys.length pc) := D2.cell 6
  have zk := D2.lt
  go_upto_region 6 with fail
  refine name_world (fun W3 hW3 => ?_)
  have hl3 : Later w2 W3 := by rw [hW3]; exact (by repeat' (with_reducible first | exact .refl _ | assumption | refine .drew ?_ | refine .drewN ?_ _ | refine .alloc ?_ _ | refine .put ?_ (by omega) _ | refine .trans ?_ (by assumption)))
  have ho3 : OwnR W3 w2.heap.size 3 1 i1 (.slice (some ⟨w2.heap.size, 0, none⟩) (usedR rs.length []).length rs.length) (usedR rs.length []) := by
   rw [hW3, used_nil, List.length_replicate]
   exact OwnR.lit (List.replicate rs.length (0 : Int)) _ (made_ints _) i1_len (by simp; omega) (Nat.le_refl _) (by simp) rfl
  clear hW3 k6 zk hmk D2
  have hgz : w.heap.size ≤ w2.heap.size := hl2.size
  have hl3w := hl2.trans hl3
  generalize w2.heap.size = gu at *
  go_loopw [31] (fun iv wr => ∃ k : Nat, k ≤ ys.length ∧ iv = .int .i64 k ∧ OwnR wr gu 3 1 i1 (.slice (some ⟨gu, 0, none⟩) (usedR rs.length (allP (ys.take k))).length rs.length) (usedR rs.length (allP (ys.take k))) ∧ Later w wr) (fun iv _ => ys.length - (intOf iv).toNat)
  case atStart => exact ⟨0, by omega, rfl, ho3, hl3w⟩
  case round =>
   clear ho3 hl3 hl3w
   obtain ⟨k, hk, rfl, ho, hb⟩ := hrel
   have Ho := Lib.hid ho
   clear ho
   by_cases hlt : k < ys.length
   ·obtain ⟨bp, op, rfl, e1, e2, hyk⟩ := (hy.later hb).at_ hlt
    have Hat := Lib.hid (allP_take hlt)
    have hmem : ∀ q ∈ ys[k].parts, q ∈ allP ys := fun q hq => List.mem_flatMap.2 ⟨ys[k], List.getElem_mem hlt, hq⟩
    have hpk := hpart _ (List.getElem_mem hlt)
    have hpre : ∀ q ∈ allP (ys.take k), q ∈ allP ys := fun q hq => by
     obtain ⟨y, hy1, hy2⟩ := List.mem_flatMap.1 hq
     exact List.mem_flatMap.2 ⟨y, List.mem_of_mem_take hy1, hy2⟩
    have hpl : (allP (ys.take k)).length ≤ 2000 := by
     have := allP_len (ys := ys.take k) (m := 50) (fun y hy => hpart y (List.mem_of_mem_take hy))
     rw [List.length_take] at this
     omega
    have Hm := Lib.hid hmem
    have Hp := Lib.hid hpre
    clear hmem hpre
    have hokw : PyOk w ys[k] := by obtain ⟨_, _, _, _, _, h⟩ := hy.at_ hlt; exact h
    have hQw0 := hokw.2.2.1
    clear hokw
    have hk0 : (0 : Int) ≤ (k : Int) := by omega
    have hk1 : (k : Int) < (ys.length : Int) := by omega
    generalize ys[k] = y at *
    obtain ⟨lot, pa, pc', parts⟩ := y
    simp only [] at e1 e2 hyk hpk Hm Hat hQw0
    have hQ : Qds wr pa parts := hyk.2.2.1
    have hcp : parts.length ≤ pc' := hyk.1
    have zb := World.block_lt_of_cell? _ _ e2
    clear hyk
    go_upto_region 9 with fail
    refine name_world (fun W5 hW5 => ?_)
    have hl5 : Later wr W5 := by rw [hW5]; exact (by repeat' (with_reducible first | exact .refl _ | assumption | refine .drew ?_ | refine .drewN ?_ _ | refine .alloc ?_ _ | refine .put ?_ (by omega) _ | refine .trans ?_ (by assumption)))
    have ho5 := Ho.out.later hl5
    have hb5 := hb.trans hl5
    clear hW5 hQ
    generalize allP (ys.take k) = pre at *
    go_loopw [38] (fun jv wq => ∃ j : Nat, j ≤ parts.length ∧ jv = .int .i64 j ∧ OwnR wq gu 3 1 i1 (.slice (some ⟨gu, 0, none⟩) (usedR rs.length (pre ++ parts.take j)).length rs.length) (usedR rs.length (pre ++ parts.take j)) ∧ Later w wq) (fun jv _ => parts.length - (intOf jv).toNat)
    case atStart => exact ⟨0, by omega, rfl, by rw [List.take_zero, List.append_nil]; exact ho5, hb5⟩
    case round =>
     clear ho5
     obtain ⟨j, hj, rfl, ho, hbj⟩ := hrel
     by_cases hjl : j < parts.length
     ·obtain ⟨bb, ob, rfl, hx4⟩ := (hQw0.later hbj) (by omega)
      obtain ⟨x0, x1, x2, x3⟩ := hx4.get hjl
      have zb2 := World.block_lt_of_cell? _ _ x1
      obtain ⟨a1, a2, a3, a4, a5⟩ := HB.out _ (Hm.out _ (List.getElem_mem hjl))
      obtain ⟨n, hn'⟩ : ∃ n : Nat, parts[j].a = (n : Int) := ⟨parts[j].a.toNat, by omega⟩
      have hnr : n < rs.length := by omega
      obtain ⟨U, hU⟩ : ∃ U, U = usedR rs.length (pre ++ parts.take j) := ⟨_, rfl⟩
      have hul : U.length = rs.length := by rw [hU]; exact used_len ..
      have ho' : OwnR wr gu 3 1 i1 (.slice (some ⟨gu, 0, none⟩) U.length rs.length) U := by rw [hU]; exact ho
      have hnu : n < U.length := by omega
      have hub : 0 ≤ U[n] ∧ U[n] ≤ 1048576 * ((pre ++ parts.take j).length : Int) := by
       subst hU
       rw [used_at hnr]
       exact used_bd (parts := pre ++ parts.take j) (fun p hp => by
        have : p ∈ allP ys := by
         rcases List.mem_append.1 hp with hp | hp
         ·exact Hp.out p hp
         ·exact Hm.out p (List.mem_of_mem_take hp)
        have := HB.out p this
        omega) (n : Int)
      rw [List.length_append, List.length_take] at hub
      have Hst2 := Lib.hid (show usedR rs.length (pre ++ parts.take (j + 1)) = U.set n (U[n] + (parts[j].c - parts[j].b)) by
       have Hst := used_snoc (n := rs.length) (parts := pre ++ parts.take j) (p := parts[j]) a1 a2
       subst hU
       rw [List.take_succ_eq_append_getElem hjl, ← List.append_assoc, Hst]
       have e : parts[j].a.toNat = n := by omega
       simp only [e])
      clear ho hU
      obtain ⟨g, c4, e4, q1, q2, q3, q4, q5⟩ := ho'.blk i1_len (by omega)
      injection e4 with e4 _ e5
      subst e5
      injection e4 with e4
      injection e4 with e4
      subst e4
      obtain ⟨b, o, e4, u0⟩ := (ho'.ints2).at_ hnu
      cases e4
      rw [Nat.zero_add] at u0
      have fu := q5 n
      have Ho := Lib.hid ho'
      clear ho'
      obtain ⟨uv, huv⟩ : ∃ uv, U[n] = uv := ⟨_, rfl⟩
      simp only [huv] at u0 hub Hst2
      clear huv
      generalize parts[j] = q at *
      obtain ⟨qa, qb, qc, qd⟩ := q
      simp only [] at x0 x1 x2 x3 a1 a2 a3 a4 a5 hn' Hst2
      subst hn'
      have hn0 : (0 : Int) ≤ (n : Int) := by omega
      have hn1 : (n : Int) < (U.length : Int) := by omega
      have hn2 : (n : Int) < (rs.length : Int) := by omega
      have hj0 : (0 : Int) ≤ (j : Int) := by omega
      have hj1 : (j : Int) < (parts.length : Int) := by omega
      have v1 : IntKind.i64.wrap (qc - qb) = qc - qb := IntWalk.i64_in _ (by omega)
      have v2 : IntKind.i64.wrap (uv + (qc - qb)) = uv + (qc - qb) := IntWalk.i64_in _ (by omega)
      go_upto_region 11 with fail
      refine name_world (fun W6 hW6 => ?_)
      have hl6 : Later wr W6 := by rw [hW6]; exact (by repeat' (with_reducible first | exact .refl _ | assumption | refine .drew ?_ | refine .drewN ?_ _ | refine .alloc ?_ _ | refine .put ?_ (by omega) _ | refine .trans ?_ (by assumption)))
      have D6 : Blk W6 wr.heap.size 92 #[.int .i64 n, .int .i64 qb, .int .i64 qc, .int .i64 qd] := by rw [hW6]; exact (by repeat' (with_reducible first | assumption | (refine Blk.newAt ?_; simp; done) | refine Blk.alloc ?_ _ | refine Blk.drew ?_ | refine Blk.drewN ?_ _ | refine Blk.later ?_ (by assumption)))
      have Ho6 := Lib.hid (Ho.out.later hl6)
      have m0 : W6.cell? ⟨wr.heap.size, 0, none⟩ = some (.int .i64 n) := D6.cell 0
      have m1 : W6.cell? ⟨wr.heap.size, 1, none⟩ = some (.int .i64 qb) := D6.cell 1
      have m2 : W6.cell? ⟨wr.heap.size, 2, none⟩ = some (.int .i64 qc) := D6.cell 2
      have m3 : W6.cell? ⟨wr.heap.size, 3, none⟩ = some (.int .i64 qd) := D6.cell 3
      have zm := D6.lt
      have u6 : W6.cell? ⟨gu, n, none⟩ = some (.int .i64 uv) := hl6.cell u0
      have zu := World.block_lt_of_cell? _ _ u6
      have fn : W6.frozen? ⟨gu, n, none⟩ = false := by
       obtain ⟨g', c', e7, _, _, _, _, f7⟩ := Ho6.out.blk i1_len (by omega)
       injection e7 with e7 _ _
       injection e7 with e7
       injection e7 with e7
       rw [e7]
       exact f7 n
      clear hW6 x0 x1 x2 x3 zb2 u0 fu q5
      generalize wr.heap.size = gp at *
      go_still_tail 12, (by kernel_rfl)
      change wpList _ _ _ _ _ W6.drew
      go_upto_region 12 with fail
      refine name_world (fun W7 hW7 => ?_)
      have hl7 : Later w W7 := by rw [hW7]; exact ((hbj.trans hl6).drew).put (by omega) _
      have Ho7 := Lib.hid (show OwnR W7 gu 3 1 i1 (.slice (some ⟨gu, 0, none⟩) (usedR rs.length (pre ++ parts.take (j + 1))).length rs.length) (usedR rs.length (pre ++ parts.take (j + 1))) by
       rw [hW7, Hst2.out, List.length_set]
       exact OwnR.setInt (OwnR.drew Ho6.out) n _)
      clear hW7
      go_wp2
      go_roundw
      case rel => exact ⟨j + 1, by omega, by go_num, Ho7.out.later (by repeat' (with_reducible first | exact .refl _ | assumption | refine .drew ?_ | refine .drewN ?_ _ | refine .alloc ?_ _ | refine .put ?_ (by omega) _ | refine .trans ?_ (by assumption))), hl7.trans (by repeat' (with_reducible first | exact .refl _ | assumption | refine .drew ?_ | refine .drewN ?_ _ | refine .alloc ?_ _ | refine .put ?_ (by omega) _ | refine .trans ?_ (by assumption)))⟩
      case measure => simp [intOf]; omega
     ·have hje : j = parts.length := by omega
      subst hje
      have Ho6 := Lib.hid (show OwnR wr gu 3 1 i1 (.slice (some ⟨gu, 0, none⟩) (usedR rs.length (allP (ys.take (k + 1)))).length rs.length) (usedR rs.length (allP (ys.take (k + 1)))) by rw [Hat.out]; rw [List.take_length] at ho; exact ho)
      go_wp2
      go_roundw
      case rel => exact ⟨k + 1, by omega, by go_num, Ho6.out.later (by repeat' (with_reducible first | exact .refl _ | assumption | refine .drew ?_ | refine .drewN ?_ _ | refine .alloc ?_ _ | refine .put ?_ (by omega) _ | refine .trans ?_ (by assumption))), hbj.trans (by repeat' (with_reducible first | exact .refl _ | assumption | refine .drew ?_ | refine .drewN ?_ _ | refine .alloc ?_ _ | refine .put ?_ (by omega) _ | refine .trans ?_ (by assumption)))⟩
      case measure => simp [intOf]; omega
   ·have hke : k = ys.length := by omega
    subst hke
    rw [List.take_length] at Ho
    have Ho2 := Lib.hid (show OwnR wr w.heap.size 3 1 i1 (.slice (some ⟨gu, 0, none⟩) (usedR rs.length (allP ys)).length rs.length) (usedR rs.length (allP ys)) from OwnR.low Ho.out hgz)
    have hul := Lib.hid (used_len rs.length (allP ys))
    go_wp2
    go_ret2
    exact ⟨some ⟨gu, 0, none⟩, rs.length, by rw [hul.out]; rfl, Ho2.out, hb.trans (by repeat' (with_reducible first | exact .refl _ | assumption | refine .drew ?_ | refine .drewN ?_ _ | refine .alloc ?_ _ | refine .put ?_ (by omega) _ | refine .trans ?_ (by assumption)))⟩
 ·rw [if_pos h0]
  have dn : (er != 0) = true := by simpa using h0
  go_enter Tryz.func37, Tryz.ntmps37
  go_wp2_with (first | (go_at_call 75; (with_reducible refine (HR.out _ (by repeat' (with_reducible first | exact .refl _ | assumption | refine .drew ?_ | refine .drewN ?_ _ | refine .alloc ?_ _ | refine .put ?_ (by omega) _ | refine .trans ?_ (by assumption)))).mono ?_); rintro e w2 ⟨A2, c2', rfl, _, hb2⟩))
  go_ret2
  exact ⟨none, 0, rfl, World.ownsRow_nil _ _ _ _, (by repeat' (with_reducible first | exact .refl _ | assumption | refine .drew ?_ | refine .drewN ?_ _ | refine .alloc ?_ _ | refine .put ?_ (by omega) _ | refine .trans ?_ (by assumption)))⟩
end Go.Proofs.YtdhakoecjmaebaaGreat
