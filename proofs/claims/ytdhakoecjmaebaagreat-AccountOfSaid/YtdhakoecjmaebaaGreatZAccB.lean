/-
 account.cloth: what a ply takes from the rolls and what of it lies double.
-/
import Derived.Test.YtdhakoecjmaebaaGreatZAccA
import Derived.Test.YtdhakoecjmaebaaGreatZSprR
import Derived.BigQuiet
namespace Go.Proofs.YtdhakoecjmaebaaGreat
open Go.RowKit
set_option linter.unusedSimpArgs false
set_option linter.unusedVariables false
def AccB (n : Nat) (q : Qd) : Prop := 0 ≤ q.a ∧ q.a < (n : Int) ∧ 0 ≤ q.b ∧ q.b < q.c ∧ q.c ≤ 1048576 ∧ 0 ≤ q.d ∧ q.d ≤ 1048576
theorem two_bd {a b M N : Int} (ha : -M ≤ a ∧ a ≤ M) (hb : 0 ≤ b ∧ b ≤ N) (hM : 0 ≤ M) : -(M * N) ≤ a * b ∧ a * b ≤ M * N := by
 have h1 := Int.mul_le_mul_of_nonneg_right ha.2 hb.1
 have h2 := Int.mul_le_mul_of_nonneg_left hb.2 hM
 have h3 := Int.mul_le_mul_of_nonneg_right ha.1 hb.1
 have h4 : -M * b = -(M * b) := Int.neg_mul ..
 omega
set_option maxHeartbeats 8000000 in
set_option maxRecDepth 100000 in
theorem account_cloth (pa C : Option Addr) (pc cc : Nat) (lot : Int) (parts : List Qd) (rs : List Rl) (w : World) (hp : Qds w pa parts) (hrs : Rolls w C rs) (hn : parts.length ≤ 1000)
  (hB : ∀ q ∈ parts, AccB rs.length q) (hw : ∀ r ∈ rs, 0 ≤ r.wd ∧ r.wd ≤ 1048576) :
  Calls Tryz.prog 41 #[.agg #[.int .i64 lot, .slice pa parts.length pc], .slice C rs.length cc] w (Ret (.tuple #[.int .i64 (tknQ rs parts), .int .i64 (dblQ rs parts)]) w) := by
 have HB := Lib.hid hB
 have HW := Lib.hid hw
 clear hB hw
 go_enter Tryz.func41, Tryz.ntmps41
 go_upto_region 2 with fail
 refine name_world (fun W2 hW2 => ?_)
 have hl2 : Later w W2 := by rw [hW2]; exact (by repeat' (with_reducible first | exact .refl _ | assumption | refine .drew ?_ | refine .drewN ?_ _ | refine .alloc ?_ _ | refine .put ?_ (by omega) _ | refine .trans ?_ (by assumption)))
 have D2 : Blk W2 w.heap.size 95 #[.int .i64 lot, .slice pa parts.length pc] := by rw [hW2]; exact (by repeat' (with_reducible first | assumption | (refine Blk.newAt ?_; simp; done) | refine Blk.alloc ?_ _ | refine Blk.drew ?_ | refine Blk.drewN ?_ _ | refine Blk.later ?_ (by assumption)))
 clear hW2
 go_loopw [4, 5, 12] (fun tv dv iv wr => ∃ (j : Nat) (t d : Int), j ≤ parts.length ∧ iv = .int .i64 j ∧ tv = .int .i64 t ∧ dv = .int .i64 d ∧ t = tknQ rs (parts.take j) ∧ d = dblQ rs (parts.take j) ∧ -(17592186044416 * (j : Int)) ≤ t ∧ t ≤ 17592186044416 * (j : Int) ∧ -(17592186044416 * (j : Int)) ≤ d ∧ d ≤ 17592186044416 * (j : Int) ∧ Later W2 wr) (fun _ _ iv _ => parts.length - (intOf iv).toNat)
 case atStart => exact ⟨0, 0, 0, by omega, rfl, rfl, rfl, rfl, rfl, by omega, by omega, by omega, by omega, Later.refl _⟩
 case round =>
  obtain ⟨j, t, d, hj, rfl, rfl, rfl, ht, hd, b1, b2, b3, b4, hb⟩ := hrel
  have Ht := Lib.hid ht
  have Hd := Lib.hid hd
  clear ht hd
  have k0 : wr.cell? ⟨w.heap.size, 0, none⟩ = some (.int .i64 lot) := (D2.later hb).cell 0
  have k1 : wr.cell? ⟨w.heap.size, 1, none⟩ = some (.slice pa parts.length pc) := (D2.later hb).cell 1
  have zk := (D2.later hb).lt
  have hlw := hl2.trans hb
  by_cases hlt : j < parts.length
  ·obtain ⟨bb, ob, rfl, hx4⟩ := (hp.later hlw) (by omega)
   obtain ⟨x0, x1, x2, x3⟩ := hx4.get hlt
   have zb := World.block_lt_of_cell? _ _ x1
   obtain ⟨a1, a2, a3, a4, a5, a6, a7⟩ := HB.out _ (List.getElem_mem hlt)
   obtain ⟨n, hn'⟩ : ∃ n : Nat, parts[j].a = (n : Int) := ⟨parts[j].a.toNat, by omega⟩
   have hnr : n < rs.length := by omega
   obtain ⟨bR, oR, rfl, r0, r1, r2, r3, r4, r5, r6, _⟩ := (hrs.later hlw).at_ hnr
   have zr := World.block_lt_of_cell? _ _ r1
   obtain ⟨w1, w2⟩ := HW.out _ (List.getElem_mem hnr)
   have HT := Lib.hid (show tknQ rs (parts.take (j + 1)) = tknQ rs (parts.take j) + 2 * (parts[j].c - parts[j].b) * rs[n].wd by
    rw [tknQ_take hlt, wdOf, hn', Int.toNat_natCast, grl_eq hnr])
   clear r0 r2 r3 r4 r5 r6
   generalize rs[n].wd = wq at *
   have hj0 : (0 : Int) ≤ (j : Int) := by omega
   have hj1 : (j : Int) < (parts.length : Int) := by omega
   have hn0 : (0 : Int) ≤ (n : Int) := by omega
   have hn1 : (n : Int) < (rs.length : Int) := by omega
   have hm := two_bd (a := 2 * (parts[j].c - parts[j].b)) (b := wq) (M := 2097152) (N := 1048576) (by omega) ⟨w1, w2⟩ (by omega)
   rcases Nat.eq_zero_or_pos j with h0 | h0
   ·subst h0
    have HD := Lib.hid (show dblQ rs (parts.take 1) = 0 from dblQ_one)
    have Hd0 := Lib.hid (show d = 0 by rw [Hd.out]; rfl)
    generalize parts[0] = q at *
    obtain ⟨qa, qb, qc, qd⟩ := q
    simp only [] at x0 x1 x2 x3 a1 a2 a3 a4 a5 a6 a7 hn' hm HT
    subst hn'
    simp only [Nat.zero_mul, Nat.add_zero] at x0 x1 x2 x3
    have v1 : IntKind.i64.wrap (qc - qb) = qc - qb := IntWalk.i64_in _ (by omega)
    have v2 : IntKind.i64.wrap (2 * (qc - qb)) = 2 * (qc - qb) := IntWalk.i64_in _ (by omega)
    have v3 : IntKind.i64.wrap (2 * (qc - qb) * wq) = 2 * (qc - qb) * wq := IntWalk.i64_in _ (by omega)
    have v4 : IntKind.i64.wrap (t + 2 * (qc - qb) * wq) = t + 2 * (qc - qb) * wq := IntWalk.i64_in _ (by omega)
    go_upto_region 4 with fail
    go_quiet (fail)
    go_wp2
    go_roundw
    case rel => exact ⟨0 + 1, t + 2 * (qc - qb) * wq, d, by omega, by go_num, by go_num, by go_num, by rw [HT.out, ← Ht.out], by rw [HD.out, Hd0.out], by omega, by omega, by omega, by omega, hb.trans (by repeat' (with_reducible first | exact .refl _ | assumption | refine .drew ?_ | refine .drewN ?_ _ | refine .alloc ?_ _ | refine .put ?_ (by omega) _ | refine .trans ?_ (by assumption)))⟩
    case measure => simp [intOf]; omega
   ·obtain ⟨i, rfl⟩ : ∃ i, j = i + 1 := ⟨j - 1, by omega⟩
    have hpl : i < parts.length := by omega
    obtain ⟨y0, y1, y2, y3⟩ := hx4.get hpl
    obtain ⟨p1, p2, p3, p4, p5, p6, p7⟩ := HB.out _ (List.getElem_mem hpl)
    obtain ⟨m, hm'⟩ : ∃ m : Nat, parts[i].a = (m : Int) := ⟨parts[i].a.toNat, by omega⟩
    have hmr : m < rs.length := by omega
    obtain ⟨_, _, eR, u0, u1, u2, u3, u4, u5, u6, _⟩ := (hrs.later hlw).at_ hmr
    cases eR
    clear u0 u2 u3 u4 u5 u6
    obtain ⟨w3, w4⟩ := HW.out _ (List.getElem_mem hmr)
    have HD := Lib.hid (show dblQ rs (parts.take (i + 1 + 1)) = dblQ rs (parts.take (i + 1)) + 2 * (endQ parts[i] - parts[i + 1].d) * rs[m].wd by
     rw [dblQ_take hlt, wdOf, hm', Int.toNat_natCast, grl_eq hmr])
    generalize rs[m].wd = wp at *
    generalize parts[i + 1] = q at *
    generalize parts[i] = p at *
    obtain ⟨qa, qb, qc, qd⟩ := q
    obtain ⟨pa_, pb, pc_, pd⟩ := p
    unfold endQ at HD
    simp only [] at x0 x1 x2 x3 a1 a2 a3 a4 a5 a6 a7 hn' hm HT y0 y1 y2 y3 p1 p2 p3 p4 p5 p6 p7 hm' HD
    subst hn' hm'
    have hm2 := two_bd (a := 2 * (pd + pc_ - pb - qd)) (b := wp) (M := 6291456) (N := 1048576) (by omega) ⟨w3, w4⟩ (by omega)
    have ei : ((i + 1 : Nat) : Int) = (i : Int) + 1 := by omega
    have v1 : IntKind.i64.wrap (qc - qb) = qc - qb := IntWalk.i64_in _ (by omega)
    have v2 : IntKind.i64.wrap (2 * (qc - qb)) = 2 * (qc - qb) := IntWalk.i64_in _ (by omega)
    have v3 : IntKind.i64.wrap (2 * (qc - qb) * wq) = 2 * (qc - qb) * wq := IntWalk.i64_in _ (by omega)
    have v4 : IntKind.i64.wrap (t + 2 * (qc - qb) * wq) = t + 2 * (qc - qb) * wq := IntWalk.i64_in _ (by omega)
    have v5 : IntKind.i64.wrap ((i : Int) + 1 - 1) = (i : Int) := by rw [Int.add_sub_cancel]; exact IntWalk.i64_in _ (by omega)
    have v5' : IntKind.i64.wrap (i : Int) = (i : Int) := IntWalk.i64_in _ (by omega)
    have v6 : IntKind.i64.wrap (pd + pc_) = pd + pc_ := IntWalk.i64_in _ (by omega)
    have v7 : IntKind.i64.wrap (pd + pc_ - pb) = pd + pc_ - pb := IntWalk.i64_in _ (by omega)
    have v8 : IntKind.i64.wrap (pd + pc_ - pb - qd) = pd + pc_ - pb - qd := IntWalk.i64_in _ (by omega)
    have v9 : IntKind.i64.wrap (2 * (pd + pc_ - pb - qd)) = 2 * (pd + pc_ - pb - qd) := IntWalk.i64_in _ (by omega)
    have va : IntKind.i64.wrap (2 * (pd + pc_ - pb - qd) * wp) = 2 * (pd + pc_ - pb - qd) * wp := IntWalk.i64_in _ (by omega)
    have vb : IntKind.i64.wrap (d + 2 * (pd + pc_ - pb - qd) * wp) = d + 2 * (pd + pc_ - pb - qd) * wp := IntWalk.i64_in _ (by omega)
    have hi0 : (0 : Int) ≤ (i : Int) := by omega
    have hi1 : (i : Int) < (parts.length : Int) := by omega
    have hmn0 : (0 : Int) ≤ (m : Int) := by omega
    have hmn1 : (m : Int) < (rs.length : Int) := by omega
    go_upto_region 4 with fail
    go_quiet (fail)
    go_upto_region 7 with fail
    go_quiet (fail)
    go_wp2
    go_roundw
    case rel => exact ⟨i + 1 + 1, t + 2 * (qc - qb) * wq, d + 2 * (pd + pc_ - pb - qd) * wp, by omega, by go_num, by go_num, by go_num, by rw [HT.out, ← Ht.out], by rw [HD.out, ← Hd.out], by omega, by omega, by omega, by omega, hb.trans (by repeat' (with_reducible first | exact .refl _ | assumption | refine .drew ?_ | refine .drewN ?_ _ | refine .alloc ?_ _ | refine .put ?_ (by omega) _ | refine .trans ?_ (by assumption)))⟩
    case measure => simp [intOf]; omega
  ·have hje : j = parts.length := by omega
   have Ht2 := Lib.hid (show t = tknQ rs parts by rw [Ht.out, hje, List.take_length])
   have Hd2 := Lib.hid (show d = dblQ rs parts by rw [Hd.out, hje, List.take_length])
   go_wp2
   go_ret2
   exact ⟨by have e1 := Ht2.out; have e2 := Hd2.out; rw [← e1, ← e2]; rfl, hlw.trans (by repeat' (with_reducible first | exact .refl _ | assumption | refine .drew ?_ | refine .drewN ?_ _ | refine .alloc ?_ _ | refine .put ?_ (by omega) _ | refine .trans ?_ (by assumption)))⟩
end Go.Proofs.YtdhakoecjmaebaaGreat
