/-
  SpreadChanges, walked.
-/
import Derived.Test.YtdhakoecjmaebaaLawOnc
import Derived.Test.YtdhakoecjmaebaaChaP
import Derived.Test.YtdhakoecjmaebaaStepC
import Derived.Test.YtdhakoecjmaebaaThree
import Derived.Deep.CutBlock
import Derived.Deep.DeepCutAuto
import Derived.StillTailTactics
namespace Go.Proofs.Ytdhakoecjmaebaa
open Go.RowKit
set_option linter.unusedSimpArgs false
set_option linter.unusedVariables false

theorem expand_bd : ∀ {pl : List Int} {j : Nat} {x : Int}, x ∈ expandL pl j → (j : Int) ≤ x ∧ x < (j : Int) + (pl.length : Int) := by
  intro pl
  induction pl with
  | nil => intro j x h; cases h
  | cons n pl ih =>
    intro j x h
    rw [expandL] at h
    rcases List.mem_append.1 h with h | h
    · rw [List.eq_of_mem_replicate h, List.length_cons]; omega
    · have := ih h
      rw [List.length_cons]; omega
theorem src_qds {w : World} {A : Option Addr} {l : List Qd} (h : Qds w A l) : SrcAt w A (l.flatMap qd4) := by
  intro ad had j u hu
  obtain ⟨i, k, a, h1, h2, rfl⟩ := flat_split qd4_len hu
  obtain ⟨b, o, e, hx⟩ := h (by have := (List.getElem?_eq_some_iff.1 h1).1; omega)
  rw [e] at had
  cases had
  obtain ⟨x0, x1, x2, x3⟩ := hx i a h1
  rw [add_plain, ← Nat.add_assoc]
  rcases k with _ | _ | _ | _ | k
  · cases h2; exact x0
  · cases h2; exact x1
  · cases h2; exact x2
  · cases h2; exact x3
  · simp [qd4] at h2
theorem QdsAt.take {w : World} {b o : Nat} {l : List Qd} (h : QdsAt w b o l) (n : Nat) : Qds w (some ⟨b, o, none⟩) (l.take n) := fun _ => ⟨b, o, rfl, fun i p hi => h i p (by rw [List.getElem?_take] at hi; split at hi; exact hi; cases hi)⟩
theorem QdsAt.drop {w : World} {b o : Nat} {l : List Qd} (h : QdsAt w b o l) (n : Nat) : Qds w (some ⟨b, o + n * 4, none⟩) (l.drop n) := fun _ => ⟨b, o + n * 4, rfl, fun i p hi => by
  have := h (n + i) p (by rwa [List.getElem?_drop] at hi)
  rwa [show o + (n + i) * 4 = o + n * 4 + i * 4 by omega] at this⟩
theorem own_apart {α : Type} {cells : α → List Value} {sz g o : Nat} {w : World} {base : Nat} {E : TypeId} {v u : Value} {l : List α} (h : OwnR w base E sz cells v l) (hb : v.ownBlock ≠ some g) : OwnR (w.setCell ⟨g, o, none⟩ u) base E sz cells v l :=
  h.ofBlk fun k hk => Below.heap_setCell w ⟨g, o, none⟩ u k (by intro e; subst e; exact hb hk)
/-- The cells of an element of a row. -/
theorem OwnR.atPly {w : World} {base g n c : Nat} {E : TypeId} {l : List Py} (h : OwnR w base E 2 Py.cells (.slice (some ⟨g, 0, none⟩) n c) l) {i : Nat} (hi : i < l.length) :
    w.cell? ⟨g, i * 2, none⟩ = some (.int .i64 l[i].lot) ∧ w.cell? ⟨g, i * 2 + 1, none⟩ = some (.slice l[i].pa l[i].parts.length l[i].pc) ∧ (∀ j, w.frozen? ⟨g, j, none⟩ = false) ∧ g < w.heap.size := by
  obtain ⟨A', c', e, _, _, hf⟩ := OwnR.form py_len h
  injection e with e _ _
  subst e
  obtain ⟨g', e', k1, k2, k3, hx⟩ := hf (by omega)
  injection e' with e'
  injection e' with e'
  subst e'
  have hxi := hx i _ (List.getElem?_eq_getElem hi)
  have h0 := hxi 0 _ rfl
  have h1 := hxi 1 _ rfl
  rw [Nat.zero_add] at h0 h1
  exact ⟨h0, h1, k3, k2⟩
theorem lay_alloc {o : Oper} {d : Nat} (h1 : o.dst = some d) (h2 : o.guard = none) (h3 : o.op = Op.alloc 39) : AllocRun Try.prog 39 #[.int .i64 0, .int .i64 0, .int .i64 0, .int .i64 0, .slice none 0 0, .slice none 0 0, .slice none 0 0] o d := by
  refine ⟨h1, h2, fun e w => ?_⟩
  unfold execOp
  rw [h3]
  go_simp
set_option maxHeartbeats 4000000 in
theorem lay_store {o : Oper} {d x : Nat} {len wd rx ry : Int} {S1 S2 P : Option Addr} {n1 d1 n2 d2 n pc : Nat} (h1 : o.dst = none) (h2 : o.guard = none) (h3 : o.op = Op.store 39 (.tmp d) (.tmp x)) :
    StoreRun Try.prog 39 #[.int .i64 0, .int .i64 0, .int .i64 0, .int .i64 0, .slice none 0 0, .slice none 0 0, .slice none 0 0] #[.int .i64 len, .int .i64 wd, .int .i64 rx, .int .i64 ry, .slice S1 n1 d1, .slice S2 n2 d2, .slice P n pc]
      (.agg #[.int .i64 len, .int .i64 wd, .int .i64 rx, .int .i64 ry, .slice S1 n1 d1, .slice S2 n2 d2, .slice P n pc]) o d x := by
  refine ⟨h1, h2, fun e w g e1 e2 hB => ?_⟩
  have c0 : w.cell? ⟨g, 0, none⟩ = some (.int .i64 0) := hB.cell 0
  have c1 : w.cell? ⟨g, 1, none⟩ = some (.int .i64 0) := hB.cell 1
  have c2 : w.cell? ⟨g, 2, none⟩ = some (.int .i64 0) := hB.cell 2
  have c3 : w.cell? ⟨g, 3, none⟩ = some (.int .i64 0) := hB.cell 3
  have c4 : w.cell? ⟨g, 4, none⟩ = some (.slice none 0 0) := hB.cell 4
  have c5 : w.cell? ⟨g, 5, none⟩ = some (.slice none 0 0) := hB.cell 5
  have c6 : w.cell? ⟨g, 6, none⟩ = some (.slice none 0 0) := hB.cell 6
  have f0 := hB.frozen 0
  have f1 := hB.frozen 1
  have f2 := hB.frozen 2
  have f3 := hB.frozen 3
  have f4 := hB.frozen 4
  have f5 := hB.frozen 5
  have f6 := hB.frozen 6
  refine ⟨puts7 w g (.int .i64 len) (.int .i64 wd) (.int .i64 rx) (.int .i64 ry) (.slice S1 n1 d1) (.slice S2 n2 d2) (.slice P n pc), ?_, ?_, ⟨fun b hb => puts7_block hb, fun u hl hg => put7 hl hg⟩, puts7_size⟩
  · unfold execOp puts7
    rw [h3]
    simp only [e1, e2]
    go_simp
  · unfold puts7
    have h := ((((((hB.set_ 0 (.int .i64 len)).set_ 1 (.int .i64 wd)).set_ 2 (.int .i64 rx)).set_ 3 (.int .i64 ry)).set_ 4 (.slice S1 n1 d1)).set_ 5 (.slice S2 n2 d2)).set_ 6 (.slice P n pc)
    simp only [List.setIfInBounds_toArray, List.set_cons_zero, List.set_cons_succ] at h
    exact h
attribute [local go_sem] ite_min ite_max
set_option maxHeartbeats 8000000 in
set_option maxRecDepth 100000 in
theorem law38_SpreadChanges (hex : ∀ W, Calls Try.prog 6 #[] W (Ret (.bool true) W)) (c : C8) (k : Nat) (w : World) (hc : C8Ok w c) (hk : k ≤ 255) :
    Calls Try.prog 4 #[c.agg, .int .u8 (k : Int)] w (Ret (.bool true) w) := by
  have HX := Lib.hid hex
  by_cases hok : few8 c = true ∧ (spR c).2.2 = 0
  · obtain ⟨hfew, hz⟩ := hok
    obtain ⟨a1, a2, a3, a4, a5, a6, a7⟩ := few8_all hfew
    have HL := Lib.hid (fun W (hW : Later w W) => law38_laid_yes c W (hc.later hW) hfew hz)
    obtain ⟨hLk, hLg, _⟩ := laid_ok hz
    have HC := Lib.hid (fun (S1 S2 P : Option Addr) (d1 d2 pc : Nat) (ys : List Py) W (hW : Later w W) (hP : Plys W P ys) (hn : ys.length ≤ 60) (hp : ∀ y ∈ ys, y.parts.length ≤ 50) =>
      spread_Check c.qa c.ra c.la S1 S2 P c.qc c.rc c.lc c.sz.length d1 c.pl.length d2 pc c.len c.wd c.rx c.ry c.ps c.rs c.lots ys W (hc.ps.later hW) (fun p hp => by have := a7 p hp; omega) (hc.rs.later hW) (by omega) (hc.lots.later hW) (by omega) hP (by omega) (fun y hy => by have := hp y hy; omega))
    have Hlot := Lib.hid (lotsGo_lots hLg)
    have Hpp := Lib.hid (show ∀ y ∈ (spR c).1, y.2.length ≤ 6 from fun y hy => Nat.le_trans (lotsGo_len hLg y hy) a3)
    have Ho := Lib.hid (fun i (hi : i < (spR c).1.length) => laid_other hLk hi)
    have Hs := Lib.hid (fun i (hi : i < (spR c).1.length) j hj => laid_short hLk hi (j := j) hj)
    have Hd := Lib.hid (fun hn i (hi : i < (spR c).1.length) => laid_double hLk hn hi)
    have Hne := Lib.hid (show ∀ y ∈ (spR c).1, 0 < y.2.length from fun y hy => by
      obtain ⟨q, r, e, _⟩ := (hLk.good y hy).1.ne
      rw [e]; simp)
    unfold C8.agg LaidYes at HL
    unfold C8.agg
    clear hfew hc hz hLk hLg a7
    generalize (spR c).2.1 = xs at *
    generalize (spR c).1 = yl at *
    obtain ⟨len, wd, rx, ry, s1, c1, sz, s2, c2, pl, qa, qc, ps, ra, rc, rs, la, lc, lots, aa, ac, plies⟩ := c
    simp only [] at HL HC Hlot Ho Hs Hd a1 a2 a3 a4 a5 a6 ⊢
    go_enter Try.func4, Try.ntmps4
    go_upto_region 2 with (first | (go_at_call 5; (with_reducible refine (HL.out _ (by repeat' (with_reducible first | exact Later.refl _ | assumption | refine Later.drew ?_ | refine Later.drewN ?_ _ | refine Later.alloc ?_ _ | refine Later.put ?_ (by omega) _ | refine Later.trans ?_ (by assumption)))).mono ?_); rintro e w2 ⟨S1, d1, S2, d2, P, pc, X, xc, ys, rfl, hys, h40, hpc, hpm, hxc, hxm, hP, hX, hb2⟩))
    refine name_world (fun W3 hW3 => ?_)
    have hl3 : Later w2 W3 := by rw [hW3]; exact (by repeat' (with_reducible first | exact Later.refl _ | assumption | refine Later.drew ?_ | refine Later.drewN ?_ _ | refine Later.alloc ?_ _ | refine Later.put ?_ (by omega) _ | refine Later.trans ?_ (by assumption)))
    have hlw : Later w W3 := by
      have : Later w w2 := (by repeat' (with_reducible first | exact Later.refl _ | assumption | refine Later.drew ?_ | refine Later.drewN ?_ _ | refine Later.alloc ?_ _ | refine Later.put ?_ (by omega) _ | refine Later.trans ?_ (by assumption)))
      exact this.trans hl3
    have D3 : Blk W3 w2.heap.size 39 #[.int .i64 len, .int .i64 wd, .int .i64 rx, .int .i64 ry, .slice S1 sz.length d1, .slice S2 pl.length d2, .slice P ys.length pc] := by rw [hW3]; exact (by repeat' (with_reducible first | assumption | (refine Blk.newAt ?_; simp; done) | refine Blk.alloc ?_ _ | refine Blk.drew ?_ | refine Blk.drewN ?_ _ | refine Blk.later ?_ (by assumption)))
    have D1 : Blk W3 w.heap.size 31 #[.int .i64 len, .int .i64 wd, .int .i64 rx, .int .i64 ry, .slice s1 sz.length c1, .slice s2 pl.length c2, .slice qa ps.length qc, .slice ra rs.length rc, .slice la lots.length lc, .slice aa plies.length ac] := Blk.later (Blk.later (by repeat' (with_reducible first | assumption | (refine Blk.newAt ?_; simp; done) | refine Blk.alloc ?_ _ | refine Blk.drew ?_ | refine Blk.drewN ?_ _ | refine Blk.later ?_ (by assumption))) hb2) hl3
    have hP3 := Plys.later hP hl3
    have Hyn := Lib.hid (show ys.length = yl.length by rw [← hys, List.length_map])
    have HPy := Lib.hid (show ∀ y ∈ ys, y.parts.length ≤ 6 from fun y hy => Hpp.out (Py.pl y) (by rw [← hys]; exact List.mem_map_of_mem hy))
    have Hys := Lib.hid hys
    clear hW3 hP hX hb2 hpm hxc hxm hl3 HL hys Hpp
    generalize w2.heap.size = g5 at *
    have l6 : W3.cell? ⟨g5, 6, none⟩ = some (.slice P ys.length pc) := D3.cell 6
    have zl := D3.lt
    by_cases h0 : ys.length = 0
    · have d0 : ((ys.length : Int) == 0) = true := by simp [h0]
      go_wp2_with (first | (go_at_call 6; (with_reducible refine (HX.out _).mono ?_); rintro e w10 ⟨rfl, hb10⟩))
      go_ret
      exact ⟨rfl, hlw.trans (by repeat' (with_reducible first | exact Later.refl _ | assumption | refine Later.drew ?_ | refine Later.drewN ?_ _ | refine Later.alloc ?_ _ | refine Later.put ?_ (by omega) _ | refine Later.trans ?_ (by assumption)))⟩
    by_cases h4 : 40 ≤ ys.length
    · have d0 : ((ys.length : Int) == 0) = false := by simp [h0]
      have d4 : decide ((ys.length : Int) ≥ 40) = true := by simp; omega
      go_wp2_with (first | (go_at_call 6; (with_reducible refine (HX.out _).mono ?_); rintro e w10 ⟨rfl, hb10⟩))
      go_ret
      exact ⟨rfl, hlw.trans (by repeat' (with_reducible first | exact Later.refl _ | assumption | refine Later.drew ?_ | refine Later.drewN ?_ _ | refine Later.alloc ?_ _ | refine Later.put ?_ (by omega) _ | refine Later.trans ?_ (by assumption)))⟩
    have d0 : ((ys.length : Int) == 0) = false := by simp [h0]
    have d4 : decide ((ys.length : Int) ≥ 40) = false := by simp; omega
    obtain ⟨i, hi⟩ : ∃ i, i = k % ys.length := ⟨_, rfl⟩
    have hil : i < ys.length := by rw [hi]; exact Nat.mod_lt _ (by omega)
    have hi1 : (k : Int).tmod (ys.length : Int) = (i : Int) := by rw [hi, Int.tmod_eq_emod_of_nonneg (by omega)]; exact (Int.natCast_emod k ys.length).symm
    have hi2 : (k : Int) % (ys.length : Int) = (i : Int) := by rw [hi]; exact (Int.natCast_emod k ys.length).symm
    clear hi
    have hi3 : (0 : Int) ≤ (i : Int) := by omega
    have hi4 : (i : Int) < (ys.length : Int) := by omega
    have h0' : 0 < ys.length := by omega
    obtain ⟨bP, oP, rfl, e1, e2, hyk⟩ := hP3.at_ hil
    have zP := World.block_lt_of_cell? _ _ e2
    have hokw : PyOk w ys[i] ∨ True := .inr trivial
    have Hli := Lib.hid (show ys[i].lot < 9223372036854775807 ∧ 0 ≤ ys[i].lot from by
      have h : ys[i].lot ∈ expandL plies 0 := by
        rw [← Hlot.out, ← Hys.out, List.map_map]
        exact List.mem_map_of_mem (f := (fun x : Pl => x.1) ∘ Py.pl) (List.getElem_mem hil)
      have := expand_bd h
      omega)
    have hlot := Hli.out
    have hpn := HPy.out _ (List.getElem_mem hil)
    have hpp : 0 < ys[i].parts.length := Hne.out (Py.pl ys[i]) (by rw [← Hys.out]; exact List.mem_map_of_mem (List.getElem_mem hil))
    have hQ := hyk.2.2.1
    have hcp := hyk.1
    have hcm := hyk.2.1
    have Hyk := Lib.hid hyk
    have hyl : i < yl.length := by rw [← Hyn.out]; exact hil
    have hpl : yl[i] = (ys[i].lot, ys[i].parts) := by
      have h : (ys.map Py.pl)[i]'(by rw [List.length_map]; exact hil) = Py.pl ys[i] := List.getElem_map ..
      simp only [Hys.out] at h
      exact h
    have Ho2 := Lib.hid (Ho.out i hyl)
    have Hs2 := Lib.hid (Hs.out i hyl)
    have Hd2 := Lib.hid (fun h => Hd.out h i hyl)
    rw [hpl] at Ho2 Hs2 Hd2
    have Hset := Lib.hid (show ∀ y : Py, (ys.set i y).map Py.pl = yl.set i (Py.pl y) from fun y => by rw [List.map_set, Hys.out])
    have Happ := Lib.hid (show (ys ++ [ys[i]]).map Py.pl = yl ++ [(ys[i].lot, ys[i].parts)] by rw [List.map_append, Hys.out]; rfl)
    have Hge := Lib.hid (show ∀ z, z = ys[i] → (ys ++ [z]).map Py.pl = yl ++ [(z.lot, z.parts)] from fun z hz => by rw [hz]; exact Happ.out)
    clear hpl hyk Ho Hs Hd hokw Hlot Happ
    obtain ⟨yi, hyi⟩ : ∃ yi, ys[i] = yi := ⟨_, rfl⟩
    have Hyi := Lib.hid hyi
    rw [hyi] at e1 e2 hpn hpp hQ hcp hcm Hyk Ho2 Hs2 Hd2 hlot
    clear hyi Hli
    obtain ⟨lot, pa, pc', parts⟩ := yi
    simp only [] at e1 e2 hpn hpp hQ hcp hcm Ho2 Hs2 Hd2 hlot
    obtain ⟨j, hj⟩ : ∃ j, j = k / 16 % parts.length := ⟨_, rfl⟩
    have hjl : j < parts.length := by rw [hj]; exact Nat.mod_lt _ hpp
    have hj1 : ((k : Int) / 16).tmod (parts.length : Int) = (j : Int) := by
      rw [hj, Int.tmod_eq_emod_of_nonneg (by omega)]
      exact (by rw [Int.natCast_emod, Int.natCast_ediv]; rfl)
    have hj2 : ((k : Int) / 16) % (parts.length : Int) = (j : Int) := by
      rw [hj]
      exact (by rw [Int.natCast_emod, Int.natCast_ediv]; rfl)
    have hjt : (k : Int).tdiv 16 = (k : Int) / 16 := Int.tdiv_eq_ediv_of_nonneg (by omega)
    have hjw : IntKind.u8.wrap ((k : Int) / 16) = (k : Int) / 16 := by
      unfold IntKind.wrap IntKind.signed IntKind.bits
      simp
      omega
    have hmx : max (parts.length : Int) 1 = (parts.length : Int) := by omega
    have hj3 : (0 : Int) ≤ (j : Int) := by omega
    have hj4 : (j : Int) < (parts.length : Int) := by omega
    have hpz : ¬ (parts.length : Int) = 0 := by omega
    clear hj
    go_upto_region 6 with fail
    refine name_world (fun W5 hW5 => ?_)
    have hl5 : Later W3 W5 := by rw [hW5]; exact (by repeat' (with_reducible first | exact Later.refl _ | assumption | refine Later.drew ?_ | refine Later.drewN ?_ _ | refine Later.alloc ?_ _ | refine Later.put ?_ (by omega) _ | refine Later.trans ?_ (by assumption)))
    have DP : Blk W5 W3.heap.size 51 #[.int .i64 lot, .slice pa parts.length pc'] := by rw [hW5]; exact (by repeat' (with_reducible first | assumption | (refine Blk.newAt ?_; simp; done) | refine Blk.alloc ?_ _ | refine Blk.drew ?_ | refine Blk.drewN ?_ _ | refine Blk.later ?_ (by assumption)))
    clear hW5 e1 e2 zP l6 zl
    obtain ⟨g9, hg9⟩ : ∃ g9, W3.heap.size = g9 := ⟨_, rfl⟩
    rw [hg9] at DP ⊢
    have Hg9 := Lib.hid hg9
    clear hg9
    have p0 : W5.cell? ⟨g9, 0, none⟩ = some (.int .i64 lot) := DP.cell 0
    have p1 : W5.cell? ⟨g9, 1, none⟩ = some (.slice pa parts.length pc') := DP.cell 1
    have zp := DP.lt
    go_upto_region 7 with fail
    have D3b := D3.later hl5
    have l0 : W5.cell? ⟨g5, 0, none⟩ = some (.int .i64 len) := D3b.cell 0
    have l1 : W5.cell? ⟨g5, 1, none⟩ = some (.int .i64 wd) := D3b.cell 1
    have l2 : W5.cell? ⟨g5, 2, none⟩ = some (.int .i64 rx) := D3b.cell 2
    have l3 : W5.cell? ⟨g5, 3, none⟩ = some (.int .i64 ry) := D3b.cell 3
    have l4 : W5.cell? ⟨g5, 4, none⟩ = some (.slice S1 sz.length d1) := D3b.cell 4
    have l5 : W5.cell? ⟨g5, 5, none⟩ = some (.slice S2 pl.length d2) := D3b.cell 5
    have l6 : W5.cell? ⟨g5, 6, none⟩ = some (.slice (some ⟨bP, oP, none⟩) ys.length pc) := D3b.cell 6
    have zl := D3b.lt
    clear hj1 hj2 hjt hjw hmx hi1 hi2
    have n0 : g5 ≠ W5.heap.size := by omega
    have n1 : g5 ≠ W5.heap.size + 1 := by omega
    have n2 : g5 ≠ W5.heap.size + 1 + 1 := by omega
    have m1 : g5 < W5.heap.size + 1 := by omega
    have m2 : g5 < W5.heap.size + 1 + 1 := by omega
    have m3 : g5 < W5.heap.size + 1 + 1 + 1 := by omega
    go_cut [11, 12, 13] from 54 to 56 (fun u v x wx => ∃ g11 g12 g13, u = .pointer (some ⟨g11, 0, none⟩) ∧ v = .pointer (some ⟨g12, 0, none⟩) ∧ x = .pointer (some ⟨g13, 0, none⟩) ∧ Blk wx g11 39 #[.int .i64 len, .int .i64 wd, .int .i64 rx, .int .i64 ry, .slice S1 sz.length d1, .slice S2 pl.length d2, .slice (some ⟨bP, oP, none⟩) ys.length pc] ∧ Blk wx g12 39 #[.int .i64 len, .int .i64 wd, .int .i64 rx, .int .i64 ry, .slice S1 sz.length d1, .slice S2 pl.length d2, .slice (some ⟨bP, oP, none⟩) ys.length pc] ∧ Blk wx g13 39 #[.int .i64 len, .int .i64 wd, .int .i64 rx, .int .i64 ry, .slice S1 sz.length d1, .slice S2 pl.length d2, .slice (some ⟨bP, oP, none⟩) ys.length pc] ∧ W5.heap.size ≤ g11 ∧ W5.heap.size ≤ g12 ∧ W5.heap.size ≤ g13 ∧ g11 ≠ g12 ∧ g11 ≠ g13 ∧ g12 ≠ g13 ∧ Later W5 wx)
    case first =>
      have hS : ∀ w' : World, Later W5 w' → (w'.cell? ⟨g5, 0, none⟩ = some (.int .i64 len) ∧ w'.cell? ⟨g5, 1, none⟩ = some (.int .i64 wd) ∧ w'.cell? ⟨g5, 2, none⟩ = some (.int .i64 rx) ∧ w'.cell? ⟨g5, 3, none⟩ = some (.int .i64 ry) ∧ w'.cell? ⟨g5, 4, none⟩ = some (.slice S1 sz.length d1) ∧ w'.cell? ⟨g5, 5, none⟩ = some (.slice S2 pl.length d2) ∧ w'.cell? ⟨g5, 6, none⟩ = some (.slice (some ⟨bP, oP, none⟩) ys.length pc) ∧ g5 < w'.heap.size) := fun w' h => ⟨h.cell l0, h.cell l1, h.cell l2, h.cell l3, h.cell l4, h.cell l5, h.cell l6, by have := h.size; omega⟩
      have HS := Lib.hid hS
      refine wp_region_held_drew (S := fun w' : World => w'.cell? ⟨g5, 0, none⟩ = some (.int .i64 len) ∧ w'.cell? ⟨g5, 1, none⟩ = some (.int .i64 wd) ∧ w'.cell? ⟨g5, 2, none⟩ = some (.int .i64 rx) ∧ w'.cell? ⟨g5, 3, none⟩ = some (.int .i64 ry) ∧ w'.cell? ⟨g5, 4, none⟩ = some (.slice S1 sz.length d1) ∧ w'.cell? ⟨g5, 5, none⟩ = some (.slice S2 pl.length d2) ∧ w'.cell? ⟨g5, 6, none⟩ = some (.slice (some ⟨bP, oP, none⟩) ys.length pc) ∧ g5 < w'.heap.size) (by kernel_rfl) (hS _ (Later.refl _).drew) (fun hHeld => ?_)
      refine take_at (i := 0) (d := 54) (v := ?_) rfl rfl (by kernel_rfl) (by kernel_rfl) (by kernel_rfl) (fun _ _ _ h => h) (by rfl) ?_ (by assumption) ?_
      rotate_left
      · (intro w hSw; (try dsimp only at hSw); go_simp; (try with_reducible rfl))
      simp only [Act.put, List.setIfInBounds_toArray, List.set_cons_zero, List.set_cons_succ]
      refine take_at (i := 1) (d := 55) (v := ?_) rfl rfl (by kernel_rfl) (by kernel_rfl) (by kernel_rfl) (fun _ _ _ h => h) (by rfl) ?_ (by assumption) ?_
      rotate_left
      · (intro w hSw; (try dsimp only at hSw); go_simp; (try with_reducible rfl))
      simp only [Act.put, List.setIfInBounds_toArray, List.set_cons_zero, List.set_cons_succ]
      refine take_at (i := 2) (d := 56) (v := ?_) rfl rfl (by kernel_rfl) (by kernel_rfl) (by kernel_rfl) (fun _ _ _ h => h) (by rfl) ?_ (by assumption) ?_
      rotate_left
      · (intro w hSw; (try dsimp only at hSw); go_simp; (try with_reducible rfl))
      simp only [Act.put, List.setIfInBounds_toArray, List.set_cons_zero, List.set_cons_succ]
      clear hHeld hS
      refine three_start (w0 := W5) (d1 := 11) (d2 := 12) (d3 := 13) (x1 := 54) (x2 := 55) (x3 := 56) (T := 39) (v := .agg #[.int .i64 len, .int .i64 wd, .int .i64 rx, .int .i64 ry, .slice S1 sz.length d1, .slice S2 pl.length d2, .slice (some ⟨bP, oP, none⟩) ys.length pc]) rfl rfl rfl rfl rfl rfl (lay_alloc rfl rfl rfl) (lay_alloc rfl rfl rfl) (lay_alloc rfl rfl rfl) (lay_store rfl rfl rfl) (lay_store rfl rfl rfl) (lay_store rfl rfl rfl) (by omega) (by omega) ?_ HS.out (by simp) rfl rfl rfl ?_ _ (Later.refl _).drew
      · intro s1 s2 s3 b1 b2 b3
        have h1 : s1 = 0 ∨ s1 = 1 ∨ s1 = 2 := by omega
        have h2 : s2 = 0 ∨ s2 = 1 ∨ s2 = 2 := by omega
        have h3 : s3 = 0 ∨ s3 = 1 ∨ s3 = 2 := by omega
        rcases h1 with rfl | rfl | rfl <;> rcases h2 with rfl | rfl | rfl <;> rcases h3 with rfl | rfl | rfl <;> (show _ = _; kernel_rfl)
      · intro g1 g2 g3 w' q12 q13 q23 p1_ p2_ p3_ B1 B2 B3 hl
        simp only [Act.put, List.setIfInBounds_toArray, List.set_cons_zero, List.set_cons_succ]
        go_wp2_with fail
        go_meet
        exact ⟨g1, g2, g3, rfl, rfl, rfl, B1, B2, B3, p1_, p2_, p3_, q12, q13, q23, hl⟩
    case rest =>
      obtain ⟨g11, g12, g13, rfl, rfl, rfl, B11, B12, B13, hz1, hz2, hz3, ne12, ne13, ne23, hcut⟩ := hcut
      clear n0 n1 n2 m1 m2 m3 l0 l1 l2 l3 l4 l5 l6 zl p0 p1
      obtain ⟨bb, ob, rfl, hat⟩ := hQ hpp
      have z11 := B11.lt
      have z12 := B12.lt
      have z13 := B13.lt
      have zg5 := D3b.lt
      have Hsrc := Lib.hid (SrcAt.list py_len hP3)
      have l6 : wc.cell? ⟨g5, 6, none⟩ = some (.slice (some ⟨bP, oP, none⟩) ys.length pc) := (D3b.later hcut).cell 6
      have zl := (D3b.later hcut).lt
      have hne8 : some g11 ≠ some wc.heap.size := by intro e; injection e with e; omega
      go_upto_region 9 with (at_builtin; refine wpList_append_rec slt_ply py_len py_one rfl (.tmp 57) (.tmp 59) rfl (base := wc.heap.size) (l := []) rfl (by repeat' (first | (with_reducible assumption) | (with_reducible refine OwnR.drew ?_) | (refine OwnR.lit [] #[] rfl py_len (by simp) (by simp) rfl (by simp); done) | (with_reducible refine OwnR.alloc ?_ _))) (A := (some ⟨bP, oP, none⟩)) (c := pc) ys rfl (by intro h; cases h) (Hsrc.out.later (hl5.trans (hcut.trans (by repeat' (with_reducible first | exact Later.refl _ | assumption | refine Later.drew ?_ | refine Later.drewN ?_ _ | refine Later.alloc ?_ _ | refine Later.put ?_ (by omega) _ | refine Later.trans ?_ (by assumption)))))) (by simp; omega) (by simp) ?_; intro A8 c8 w8 ho8 hg8; have K8 := Blk.grown ((by repeat' (with_reducible first | assumption | (refine Blk.newAt ?_; simp; done) | refine Blk.alloc ?_ _ | refine Blk.drew ?_ | refine Blk.drewN ?_ _ | refine Blk.later ?_ (by assumption))) : Blk _ g11 39 #[.int .i64 len, .int .i64 wd, .int .i64 rx, .int .i64 ry, .slice S1 sz.length d1, .slice S2 pl.length d2, .slice (some ⟨bP, oP, none⟩) ys.length pc]) hg8 hne8; have kf := K8.frozen 6; have kz := K8.lt; have kc : w8.cell? ⟨g11, 6, none⟩ = some (.slice (some ⟨bP, oP, none⟩) ys.length pc) := K8.cell 6)
      simp only [List.nil_append] at ho8
      have hw8 : Later wc w8 := Later.grown ((Later.refl _).alloc _) hg8 (by intro g hg; cases hg; exact Nat.le_refl _)
      refine name_world (fun W8 hW8 => ?_)
      have C11 : Blk W8 g11 39 #[.int .i64 len, .int .i64 wd, .int .i64 rx, .int .i64 ry, .slice S1 sz.length d1, .slice S2 pl.length d2, .slice A8 ys.length c8] := by rw [hW8]; exact K8.set_ 6 _
      have C12 : Blk W8 g12 39 #[.int .i64 len, .int .i64 wd, .int .i64 rx, .int .i64 ry, .slice S1 sz.length d1, .slice S2 pl.length d2, .slice (some ⟨bP, oP, none⟩) ys.length pc] := by rw [hW8]; exact (B12.later hw8).past (by omega)
      have C13 : Blk W8 g13 39 #[.int .i64 len, .int .i64 wd, .int .i64 rx, .int .i64 ry, .slice S1 sz.length d1, .slice S2 pl.length d2, .slice (some ⟨bP, oP, none⟩) ys.length pc] := by rw [hW8]; exact (B13.later hw8).past (by omega)
      have Ho8 := Lib.hid (show OwnR W8 wc.heap.size 51 2 Py.cells (.slice A8 ys.length c8) ys by rw [hW8]; exact OwnR.past ho8 z11)
      have hl8 : Later W5 W8 := by rw [hW8]; exact (hcut.trans hw8).put hz1 _
      have hzc8 : wc.heap.size ≤ W8.heap.size := by rw [hW8]; simp; exact hw8.size
      clear hW8 ho8 hg8 K8 kf kz kc hw8 l6 zl hne8 B11 B12 B13
      generalize wc.heap.size = Bc at *
      -- region 9
      obtain ⟨gb8, c8', e8, q1, q2, q3, q4, q5⟩ := Ho8.out.blk py_len (by omega)
      injection e8 with e8 _ e8c
      subst e8 e8c
      obtain ⟨A', c'', e', _, _, hfx⟩ := OwnR.form py_len Ho8.out
      injection e' with e' _ ec'
      subst e' ec'
      obtain ⟨g', e', _, _, _, hx⟩ := hfx (by omega)
      injection e' with e'
      injection e' with e'
      subst e'
      have hxi := hx i _ (List.getElem?_eq_getElem hil)
      rw [Hyi.out] at hxi
      have x0 : W8.cell? ⟨gb8, i * 2, none⟩ = some (.int .i64 lot) := by have h := hxi 0 _ rfl; rwa [Nat.zero_add, Nat.add_zero] at h
      have x1 : W8.cell? ⟨gb8, i * 2 + 1, none⟩ = some (.slice (some ⟨bb, ob, none⟩) parts.length pc') := by have h := hxi 1 _ rfl; rwa [Nat.zero_add] at h
      have f0 := q5 (i * 2)
      have f1 := q5 (i * 2 + 1)
      have c6 : W8.cell? ⟨g11, 6, none⟩ = some (.slice (some ⟨gb8, 0, none⟩) ys.length c8) := C11.cell 6
      have cz := C11.lt
      have p0 : W8.cell? ⟨g9, 0, none⟩ = some (.int .i64 lot) := (DP.later hl8).cell 0
      have p1 : W8.cell? ⟨g9, 1, none⟩ = some (.slice (some ⟨bb, ob, none⟩) parts.length pc') := (DP.later hl8).cell 1
      have zp := (DP.later hl8).lt
      have vl : IntKind.i64.wrap (lot + 1) = lot + 1 := IntWalk.i64_in _ (by omega)
      clear hx hfx hxi
      go_upto_region 10 with fail
      refine name_world (fun W9 hW9 => ?_)
      have C11b : Blk W9 g11 39 #[.int .i64 len, .int .i64 wd, .int .i64 rx, .int .i64 ry, .slice S1 sz.length d1, .slice S2 pl.length d2, .slice (some ⟨gb8, 0, none⟩) ys.length c8] := by rw [hW9]; exact (C11.past (by omega)).past (by omega)
      have C12b : Blk W9 g12 39 #[.int .i64 len, .int .i64 wd, .int .i64 rx, .int .i64 ry, .slice S1 sz.length d1, .slice S2 pl.length d2, .slice (some ⟨bP, oP, none⟩) ys.length pc] := by rw [hW9]; exact (C12.past (by omega)).past (by omega)
      have C13b : Blk W9 g13 39 #[.int .i64 len, .int .i64 wd, .int .i64 rx, .int .i64 ry, .slice S1 sz.length d1, .slice S2 pl.length d2, .slice (some ⟨bP, oP, none⟩) ys.length pc] := by rw [hW9]; exact (C13.past (by omega)).past (by omega)
      have Ho9 := Lib.hid (show OwnR W9 Bc 51 2 Py.cells (.slice (some ⟨gb8, 0, none⟩) ys.length c8) (ys.set i ⟨lot + 1, some ⟨bb, ob, none⟩, pc', parts⟩) by
        rw [hW9]
        exact OwnR.setPly Ho8.out i ⟨lot + 1, some ⟨bb, ob, none⟩, pc', parts⟩)
      have hl9 : Later W5 W9 := by rw [hW9]; exact (hl8.put (by omega) _).put (by omega) _
      have hg9z : W9.heap.size = W8.heap.size := by rw [hW9]; simp
      have Hg9z := Lib.hid hg9z
      have hgb8 : gb8 < W9.heap.size := by omega
      have hz91 : g11 < W9.heap.size := by omega
      have hz92 : g12 < W9.heap.size := by omega
      have hg9B : g9 < W9.heap.size := by have := hl9.size; omega
      have hz93 : g13 < W9.heap.size := by omega
      clear hW9 x0 x1 f0 f1 c6 cz p0 p1 zp vl hg9z C11 C12 C13 q1 q2 q4 q5 Ho8
      -- region 10
      have l6 : W9.cell? ⟨g5, 6, none⟩ = some (.slice (some ⟨bP, oP, none⟩) ys.length pc) := (D3b.later hl9).cell 6
      have zl := (D3b.later hl9).lt
      have hne8 : some g12 ≠ some W9.heap.size := by intro e; injection e with e; omega
      go_upto_region 11 with (at_builtin; refine wpList_append_rec slt_ply py_len py_one rfl (.tmp 72) (.tmp 74) rfl (base := W9.heap.size) (l := []) rfl (by repeat' (first | (with_reducible assumption) | (with_reducible refine OwnR.drew ?_) | (refine OwnR.lit [] #[] rfl py_len (by simp) (by simp) rfl (by simp); done) | (with_reducible refine OwnR.alloc ?_ _))) (A := (some ⟨bP, oP, none⟩)) (c := pc) ys rfl (by intro h; cases h) (Hsrc.out.later (hl5.trans (hl9.trans (by repeat' (with_reducible first | exact Later.refl _ | assumption | refine Later.drew ?_ | refine Later.drewN ?_ _ | refine Later.alloc ?_ _ | refine Later.put ?_ (by omega) _ | refine Later.trans ?_ (by assumption)))))) (by simp; omega) (by simp) ?_; intro A10 c10 w10 ho10 hg10; have K10 := Blk.grown ((by repeat' (with_reducible first | assumption | (refine Blk.newAt ?_; simp; done) | refine Blk.alloc ?_ _ | refine Blk.drew ?_ | refine Blk.drewN ?_ _ | refine Blk.later ?_ (by assumption))) : Blk _ g12 39 #[.int .i64 len, .int .i64 wd, .int .i64 rx, .int .i64 ry, .slice S1 sz.length d1, .slice S2 pl.length d2, .slice (some ⟨bP, oP, none⟩) ys.length pc]) hg10 hne8; have kf := K10.frozen 6; have kz := K10.lt; have kc : w10.cell? ⟨g12, 6, none⟩ = some (.slice (some ⟨bP, oP, none⟩) ys.length pc) := K10.cell 6)
      simp only [List.nil_append] at ho10
      have hw10 : Later W9 w10 := Later.grown ((Later.refl _).alloc _) hg10 (by intro g hg; cases hg; exact Nat.le_refl _)
      refine name_world (fun W10 hW10 => ?_)
      have C12 : Blk W10 g12 39 #[.int .i64 len, .int .i64 wd, .int .i64 rx, .int .i64 ry, .slice S1 sz.length d1, .slice S2 pl.length d2, .slice A10 ys.length c10] := by rw [hW10]; exact K10.set_ 6 _
      have C11 : Blk W10 g11 39 #[.int .i64 len, .int .i64 wd, .int .i64 rx, .int .i64 ry, .slice S1 sz.length d1, .slice S2 pl.length d2, .slice (some ⟨gb8, 0, none⟩) ys.length c8] := by rw [hW10]; exact (C11b.later hw10).past (by omega)
      have C13 : Blk W10 g13 39 #[.int .i64 len, .int .i64 wd, .int .i64 rx, .int .i64 ry, .slice S1 sz.length d1, .slice S2 pl.length d2, .slice (some ⟨bP, oP, none⟩) ys.length pc] := by rw [hW10]; exact (C13b.later hw10).past (by omega)
      have Ho10 := Lib.hid (show OwnR W10 W9.heap.size 51 2 Py.cells (.slice A10 ys.length c10) ys by rw [hW10]; exact OwnR.past ho10 hz92)
      have Hp9 := Lib.hid (show OwnR W10 Bc 51 2 Py.cells (.slice (some ⟨gb8, 0, none⟩) ys.length c8) (ys.set i ⟨lot + 1, some ⟨bb, ob, none⟩, pc', parts⟩) by rw [hW10]; exact OwnR.past (Ho9.out.later hw10) (by omega))
      have hl10 : Later W5 W10 := by rw [hW10]; exact (hl9.trans hw10).put hz2 _
      have hz910 : W9.heap.size ≤ W10.heap.size := by rw [hW10]; simp; exact hw10.size
      clear hW10 ho10 hg10 K10 kf kz kc hw10 l6 zl hne8 C11b C12b C13b Ho9
      generalize W9.heap.size = B9 at *
      -- region 11
      obtain ⟨gb10, c10', e10, q1, q2, q3', q4', q5'⟩ := Ho10.out.blk py_len (by omega)
      injection e10 with e10 _ e10c
      subst e10 e10c
      clear q1 q2
      have hnp : parts.length ≤ 6 := hpn
      have hlj : (parts.take j).length = j := by rw [List.length_take]; omega
      have hld : (parts.drop (j + 1)).length = parts.length - (j + 1) := List.length_drop
      go_cut [] from 77 to 99 (fun wx => ∃ A c, OwnR wx W10.heap.size 58 4 qd4 (.slice A (parts.length - 1) c) (parts.take j ++ parts.drop (j + 1)) ∧ OwnR wx B9 51 2 Py.cells (.slice (some ⟨gb10, 0, none⟩) ys.length c10) (ys.set i ⟨lot, A, c, parts.take j ++ parts.drop (j + 1)⟩) ∧ OwnR wx Bc 51 2 Py.cells (.slice (some ⟨gb8, 0, none⟩) ys.length c8) (ys.set i ⟨lot + 1, some ⟨bb, ob, none⟩, pc', parts⟩) ∧ Blk wx g11 39 #[.int .i64 len, .int .i64 wd, .int .i64 rx, .int .i64 ry, .slice S1 sz.length d1, .slice S2 pl.length d2, .slice (some ⟨gb8, 0, none⟩) ys.length c8] ∧ Blk wx g12 39 #[.int .i64 len, .int .i64 wd, .int .i64 rx, .int .i64 ry, .slice S1 sz.length d1, .slice S2 pl.length d2, .slice (some ⟨gb10, 0, none⟩) ys.length c10] ∧ Blk wx g13 39 #[.int .i64 len, .int .i64 wd, .int .i64 rx, .int .i64 ry, .slice S1 sz.length d1, .slice S2 pl.length d2, .slice (some ⟨bP, oP, none⟩) ys.length pc] ∧ W10.heap.size ≤ wx.heap.size ∧ Later W5 wx)
      case first =>
        have hS : ∀ w' : World, Blk w' g12 39 #[.int .i64 len, .int .i64 wd, .int .i64 rx, .int .i64 ry, .slice S1 sz.length d1, .slice S2 pl.length d2, .slice (some ⟨gb10, 0, none⟩) ys.length c10] → Blk w' g9 51 #[.int .i64 lot, .slice (some ⟨bb, ob, none⟩) parts.length pc'] → (w'.cell? ⟨g12, 6, none⟩ = some (.slice (some ⟨gb10, 0, none⟩) ys.length c10) ∧ w'.cell? ⟨g9, 0, none⟩ = some (.int .i64 lot) ∧ w'.cell? ⟨g9, 1, none⟩ = some (.slice (some ⟨bb, ob, none⟩) parts.length pc') ∧ g12 < w'.heap.size ∧ g9 < w'.heap.size) := fun w' h1 h2 => ⟨h1.cell 6, h2.cell 0, h2.cell 1, h1.lt, h2.lt⟩
        have HS := Lib.hid hS
        have DPc := DP.later hl10
        have Hs1 := Lib.hid (src_qds (hat.take j))
        have hg9b : g9 < B9 := hg9B
        have vj : IntKind.i64.wrap ((j : Int) + 1) = (j : Int) + 1 := IntWalk.i64_in _ (by omega)
        have hmn : min ((j : Int) + 1) (parts.length : Int) = (j : Int) + 1 := by omega
        have b1 : (j : Int) ≤ (pc' : Int) := by omega
        have b2 : (0 : Int) ≤ (j : Int) + 1 := by omega
        have b3 : (j : Int) + 1 ≤ (parts.length : Int) := by omega
        have b4 : (j : Int) + 1 ≤ (pc' : Int) := by omega
        have b5 : (parts.length : Int) ≤ (pc' : Int) := by omega
        refine wp_region_held_drew (S := fun w' : World => w'.cell? ⟨g12, 6, none⟩ = some (.slice (some ⟨gb10, 0, none⟩) ys.length c10) ∧ w'.cell? ⟨g9, 0, none⟩ = some (.int .i64 lot) ∧ w'.cell? ⟨g9, 1, none⟩ = some (.slice (some ⟨bb, ob, none⟩) parts.length pc') ∧ g12 < w'.heap.size ∧ g9 < w'.heap.size) (by kernel_rfl) (hS _ (Blk.drew C12) (Blk.drew DPc)) (fun hHeld => ?_)
        refine take_at (i := 0) (d := 77) (v := ?_) rfl rfl (by kernel_rfl) (by kernel_rfl) (by kernel_rfl) (fun _ _ _ h => h) (by rfl) ?_ (by assumption) ?_
        rotate_left
        · (intro w hSw; (try dsimp only at hSw); go_simp; (try with_reducible rfl))
        simp only [Act.put, List.setIfInBounds_toArray, List.set_cons_zero, List.set_cons_succ]
        refine take_at (i := 1) (d := 78) (v := ?_) rfl rfl (by kernel_rfl) (by kernel_rfl) (by kernel_rfl) (fun _ _ _ h => h) (by rfl) ?_ (by assumption) ?_
        rotate_left
        · (intro w hSw; (try dsimp only at hSw); go_simp; (try with_reducible rfl))
        simp only [Act.put, List.setIfInBounds_toArray, List.set_cons_zero, List.set_cons_succ]
        refine take_at (i := 2) (d := 79) (v := ?_) rfl rfl (by kernel_rfl) (by kernel_rfl) (by kernel_rfl) (fun _ _ _ h => h) (by rfl) ?_ (by assumption) ?_
        rotate_left
        · (intro w hSw; (try dsimp only at hSw); go_simp; (try with_reducible rfl))
        simp only [Act.put, List.setIfInBounds_toArray, List.set_cons_zero, List.set_cons_succ]
        refine take_at (i := 3) (d := 80) (v := ?_) rfl rfl (by kernel_rfl) (by kernel_rfl) (by kernel_rfl) (fun _ _ _ h => h) (by rfl) ?_ (by assumption) ?_
        rotate_left
        · (intro w hSw; (try dsimp only at hSw); go_simp; (try with_reducible rfl))
        simp only [Act.put, List.setIfInBounds_toArray, List.set_cons_zero, List.set_cons_succ]
        refine take_at (i := 4) (d := 81) (v := ?_) rfl rfl (by kernel_rfl) (by kernel_rfl) (by kernel_rfl) (fun _ _ _ h => h) (by rfl) ?_ (by assumption) ?_
        rotate_left
        · (intro w hSw; (try dsimp only at hSw); go_simp; (try with_reducible rfl))
        simp only [Act.put, List.setIfInBounds_toArray, List.set_cons_zero, List.set_cons_succ]
        refine take_at (i := 6) (d := 83) (v := ?_) rfl rfl (by kernel_rfl) (by kernel_rfl) (by kernel_rfl) (fun _ _ _ h => h) (by rfl) ?_ (by assumption) ?_
        rotate_left
        · (intro w hSw; (try dsimp only at hSw); go_simp; (try with_reducible rfl))
        simp only [Act.put, List.setIfInBounds_toArray, List.set_cons_zero, List.set_cons_succ]
        refine take_at (i := 7) (d := 84) (v := ?_) rfl rfl (by kernel_rfl) (by kernel_rfl) (by kernel_rfl) (fun _ _ _ h => h) (by rfl) ?_ (by assumption) ?_
        rotate_left
        · (intro w hSw; (try dsimp only at hSw); go_simp; (try with_reducible rfl))
        simp only [Act.put, List.setIfInBounds_toArray, List.set_cons_zero, List.set_cons_succ]
        refine take_at (i := 8) (d := 85) (v := ?_) rfl rfl (by kernel_rfl) (by kernel_rfl) (by kernel_rfl) (fun _ _ _ h => h) (by rfl) ?_ (by assumption) ?_
        rotate_left
        · (intro w hSw; (try dsimp only at hSw); go_simp; (try with_reducible rfl))
        simp only [Act.put, List.setIfInBounds_toArray, List.set_cons_zero, List.set_cons_succ]
        refine take_at (i := 9) (d := 86) (v := .slice (some ⟨bb, ob, none⟩) j pc') rfl rfl (by kernel_rfl) (by kernel_rfl) (by kernel_rfl) (fun _ _ _ h => h) (by rfl) ?_ (by assumption) ?_
        · (intro w hSw; (try dsimp only at hSw); go_simp; (try with_reducible rfl))
        simp only [Act.put, List.setIfInBounds_toArray, List.set_cons_zero, List.set_cons_succ]
        refine take_at (i := 11) (d := 88) (v := ?_) rfl rfl (by kernel_rfl) (by kernel_rfl) (by kernel_rfl) (fun _ _ _ h => h) (by rfl) ?_ (by assumption) ?_
        rotate_left
        · (intro w hSw; (try dsimp only at hSw); go_simp; (try with_reducible rfl))
        simp only [Act.put, List.setIfInBounds_toArray, List.set_cons_zero, List.set_cons_succ]
        refine take_at (i := 12) (d := 89) (v := ?_) rfl rfl (by kernel_rfl) (by kernel_rfl) (by kernel_rfl) (fun _ _ _ h => h) (by rfl) ?_ (by assumption) ?_
        rotate_left
        · (intro w hSw; (try dsimp only at hSw); go_simp; (try with_reducible rfl))
        simp only [Act.put, List.setIfInBounds_toArray, List.set_cons_zero, List.set_cons_succ]
        refine take_at (i := 13) (d := 90) (v := ?_) rfl rfl (by kernel_rfl) (by kernel_rfl) (by kernel_rfl) (fun _ _ _ h => h) (by rfl) ?_ (by assumption) ?_
        rotate_left
        · (intro w hSw; (try dsimp only at hSw); go_simp; (try with_reducible rfl))
        simp only [Act.put, List.setIfInBounds_toArray, List.set_cons_zero, List.set_cons_succ]
        refine take_at (i := 14) (d := 91) (v := ?_) rfl rfl (by kernel_rfl) (by kernel_rfl) (by kernel_rfl) (fun _ _ _ h => h) (by rfl) ?_ (by assumption) ?_
        rotate_left
        · (intro w hSw; (try dsimp only at hSw); go_simp; (try with_reducible rfl))
        simp only [Act.put, List.setIfInBounds_toArray, List.set_cons_zero, List.set_cons_succ]
        refine take_at (i := 15) (d := 92) (v := ?_) rfl rfl (by kernel_rfl) (by kernel_rfl) (by kernel_rfl) (fun _ _ _ h => h) (by rfl) ?_ (by assumption) ?_
        rotate_left
        · (intro w hSw; (try dsimp only at hSw); go_simp; (try with_reducible rfl))
        simp only [Act.put, List.setIfInBounds_toArray, List.set_cons_zero, List.set_cons_succ]
        refine take_at (i := 16) (d := 93) (v := ?_) rfl rfl (by kernel_rfl) (by kernel_rfl) (by kernel_rfl) (fun _ _ _ h => h) (by rfl) ?_ (by assumption) ?_
        rotate_left
        · (intro w hSw; (try dsimp only at hSw); go_simp; (try with_reducible rfl))
        simp only [Act.put, List.setIfInBounds_toArray, List.set_cons_zero, List.set_cons_succ]
        refine take_at (i := 17) (d := 94) (v := ?_) rfl rfl (by kernel_rfl) (by kernel_rfl) (by kernel_rfl) (fun _ _ _ h => h) (by rfl) ?_ (by assumption) ?_
        rotate_left
        · (intro w hSw; (try dsimp only at hSw); go_simp; (try with_reducible rfl))
        simp only [Act.put, List.setIfInBounds_toArray, List.set_cons_zero, List.set_cons_succ]
        refine take_at (i := 18) (d := 95) (v := ?_) rfl rfl (by kernel_rfl) (by kernel_rfl) (by kernel_rfl) (fun _ _ _ h => h) (by rfl) ?_ (by assumption) ?_
        rotate_left
        · (intro w hSw; (try dsimp only at hSw); go_simp; (try with_reducible rfl))
        simp only [Act.put, List.setIfInBounds_toArray, List.set_cons_zero, List.set_cons_succ]
        by_cases hcap : pc' = j + 1
        · have hnp1 : parts.length = j + 1 := by omega
          have Hs2 := Lib.hid (show SrcAt W3 (some ⟨bb, ob, none⟩) ((parts.drop (j + 1)).flatMap qd4) by
            rw [List.drop_eq_nil_of_le (by omega)]
            intro ad had j' u hu
            simp at hu)
          refine take_at (i := 19) (d := 96) (v := .slice (some ⟨bb, ob, none⟩) (parts.length - (j + 1)) (pc' - (j + 1))) rfl rfl (by kernel_rfl) (by kernel_rfl) (by kernel_rfl) (fun _ _ _ h => h) (by rfl) ?_ (by assumption) ?_
          · (intro w hSw; (try dsimp only at hSw); go_simp; (try with_reducible rfl))
          simp only [Act.put, List.setIfInBounds_toArray, List.set_cons_zero, List.set_cons_succ]
          have Hcap := Lib.hid hcap
          clear hcap hnp1
          clear hHeld
          refine val_at (i := 5) (d := 82) (v := .slice (some ⟨W10.drew.heap.size, 0, none⟩) 0 0) (w' := W10.drew.alloc (.cells #[] 58)) (by kernel_rfl) rfl rfl (by rfl) (by go_simp) (HS.out _ (Blk.alloc (Blk.drew C12) _) (Blk.alloc (Blk.drew DPc) _)) ?_
          simp only [Act.put, List.setIfInBounds_toArray, List.set_cons_zero, List.set_cons_succ]
          refine append_at (i := 10) (d := 87) slt_part qd4_len qd4_one (by kernel_rfl) rfl rfl rfl (.tmp 82) (.tmp 86) rfl (base := W10.heap.size) (l := ([] : List Qd)) rfl (OwnR.lit [] #[] rfl qd4_len (by simp) (by simp) rfl (by simp)) (A := some ⟨bb, ob, none⟩) (c := pc') (parts.take j) (by rw [hlj]; rfl) (by intro h; cases h) (Hs1.out.later (hl5.trans (hl10.drew.alloc _))) (by simp; omega) (by simp) (fun A4 c4 w4 ho4 hg4 => ?_)
          have L4 : Later W10 w4 := Later.grown ((Later.refl _).drew.alloc _) hg4 (fun g hg => by injection hg with hg; simp at hg; omega)
          refine ⟨HS.out _ (C12.later L4) (DPc.later L4), fun hS4 => ?_⟩
          simp only [Act.put, List.setIfInBounds_toArray, List.set_cons_zero, List.set_cons_succ]
          have O4 : OwnR w4 W10.heap.size 58 4 qd4 (.slice A4 (parts.take j).length c4) (parts.take j) := ho4
          refine append_at (i := 20) (d := 97) slt_part qd4_len qd4_one (by kernel_rfl) rfl rfl rfl (.tmp 87) (.tmp 96) rfl (base := W10.heap.size) (l := parts.take j) rfl O4 (A := some ⟨bb, ob, none⟩) (c := pc' - (j + 1)) (parts.drop (j + 1)) (by rw [hld]; rfl) (by intro h; cases h) (Hs2.out.later (hl5.trans (hl10.trans L4))) (by simp; omega) (by have := L4.size; omega) (fun A5 c5 w5 ho5 hg5 => ?_)
          have L5 : Later W10 w5 := Later.grown L4 hg5 (fun g hg => (World.ownsRow.lt O4 g hg).1)
          refine ⟨HS.out _ (C12.later L5) (DPc.later L5), fun hHeld => ?_⟩
          simp only [Act.put, List.setIfInBounds_toArray, List.set_cons_zero, List.set_cons_succ]
          have hlen : (parts.take j ++ parts.drop (j + 1)).length = parts.length - 1 := by simp; omega
          rw [hlen] at ho5 ⊢
          refine take_at (i := 21) (d := 98) (v := ?_) rfl rfl (by kernel_rfl) (by kernel_rfl) (by kernel_rfl) (fun _ _ _ h => h) (by rfl) ?_ (by assumption) ?_
          rotate_left
          · (intro w hSw; (try dsimp only at hSw); go_simp; (try with_reducible rfl))
          simp only [Act.put, List.setIfInBounds_toArray, List.set_cons_zero, List.set_cons_succ]
          refine take_at (i := 22) (d := 99) (v := ?_) rfl rfl (by kernel_rfl) (by kernel_rfl) (by kernel_rfl) (fun _ _ _ h => h) (by rfl) ?_ (by assumption) ?_
          rotate_left
          · (intro w hSw; (try dsimp only at hSw); go_simp; (try with_reducible rfl))
          simp only [Act.put, List.setIfInBounds_toArray, List.set_cons_zero, List.set_cons_succ]
          have OS := Ho10.out.later L5
          obtain ⟨x0, x1, fz, zx⟩ := OS.atPly hil
          have f0 := fz (i * 2)
          have f1 := fz (i * 2 + 1)
          have hz5 := L5.size
          clear hHeld
          refine store_at (i := 23) (w' := (w5.setCell ⟨gb10, i * 2, none⟩ (.int .i64 lot)).setCell ⟨gb10, i * 2 + 1, none⟩ (.slice A5 (parts.length - 1) c5)) (by kernel_rfl) rfl rfl (by rfl) (by go_simp) (HS.out _ (((C12.later L5).past (by omega)).past (by omega)) (((DPc.later L5).past (by omega)).past (by omega))) ?_
          have OSet := OwnR.setPly OS i ⟨lot, A5, c5, parts.take j ++ parts.drop (j + 1)⟩
          simp only [hlen] at OSet
          have hnb : (Value.slice (some ⟨gb8, 0, none⟩) ys.length c8).ownBlock ≠ some gb10 := fun e => by simp [Value.ownBlock] at e; omega
          have hP1 := Lib.hid (OwnR.past (o := i * 2 + 1) (u := .slice A5 (parts.length - 1) c5) (OwnR.past (o := i * 2) (u := .int .i64 lot) ho5 (show gb10 < W10.heap.size by omega)) (show gb10 < W10.heap.size by omega))
          have hP2 := Lib.hid OSet
          have hP3' := Lib.hid (own_apart (o := i * 2 + 1) (u := .slice A5 (parts.length - 1) c5) (own_apart (o := i * 2) (u := .int .i64 lot) (Hp9.out.later L5) hnb) hnb)
          have hP4 := Lib.hid (show Later W5 ((w5.setCell ⟨gb10, i * 2, none⟩ (.int .i64 lot)).setCell ⟨gb10, i * 2 + 1, none⟩ (.slice A5 (parts.length - 1) c5)) from ((hl10.trans L5).put (by omega) _).put (by omega) _)
          clear OSet ho5
          refine wpAnyH_done (by kernel_rfl) ?_ _
          go_wp2_with fail
          go_meet
          exact ⟨A5, c5, hP1.out, hP2.out, hP3'.out, ((C11.later L5).past (by omega)).past (by omega), ((C12.later L5).past (by omega)).past (by omega), ((C13.later L5).past (by omega)).past (by omega), by simp; omega, hP4.out⟩
        · have Hs2 := Lib.hid (src_qds (hat.drop (j + 1)))
          refine take_at (i := 19) (d := 96) (v := .slice (some ⟨bb, ob + (j + 1) * 4, none⟩) (parts.length - (j + 1)) (pc' - (j + 1))) rfl rfl (by kernel_rfl) (by kernel_rfl) (by kernel_rfl) (fun _ _ _ h => h) (by rfl) ?_ (by assumption) ?_
          · (intro w hSw; (try dsimp only at hSw); go_simp; (try with_reducible rfl))
          simp only [Act.put, List.setIfInBounds_toArray, List.set_cons_zero, List.set_cons_succ]
          clear hHeld
          refine val_at (i := 5) (d := 82) (v := .slice (some ⟨W10.drew.heap.size, 0, none⟩) 0 0) (w' := W10.drew.alloc (.cells #[] 58)) (by kernel_rfl) rfl rfl (by rfl) (by go_simp) (HS.out _ (Blk.alloc (Blk.drew C12) _) (Blk.alloc (Blk.drew DPc) _)) ?_
          simp only [Act.put, List.setIfInBounds_toArray, List.set_cons_zero, List.set_cons_succ]
          refine append_at (i := 10) (d := 87) slt_part qd4_len qd4_one (by kernel_rfl) rfl rfl rfl (.tmp 82) (.tmp 86) rfl (base := W10.heap.size) (l := ([] : List Qd)) rfl (OwnR.lit [] #[] rfl qd4_len (by simp) (by simp) rfl (by simp)) (A := some ⟨bb, ob, none⟩) (c := pc') (parts.take j) (by rw [hlj]; rfl) (by intro h; cases h) (Hs1.out.later (hl5.trans (hl10.drew.alloc _))) (by simp; omega) (by simp) (fun A4 c4 w4 ho4 hg4 => ?_)
          have L4 : Later W10 w4 := Later.grown ((Later.refl _).drew.alloc _) hg4 (fun g hg => by injection hg with hg; simp at hg; omega)
          refine ⟨HS.out _ (C12.later L4) (DPc.later L4), fun hS4 => ?_⟩
          simp only [Act.put, List.setIfInBounds_toArray, List.set_cons_zero, List.set_cons_succ]
          have O4 : OwnR w4 W10.heap.size 58 4 qd4 (.slice A4 (parts.take j).length c4) (parts.take j) := ho4
          refine append_at (i := 20) (d := 97) slt_part qd4_len qd4_one (by kernel_rfl) rfl rfl rfl (.tmp 87) (.tmp 96) rfl (base := W10.heap.size) (l := parts.take j) rfl O4 (A := some ⟨bb, (ob + (j + 1) * 4), none⟩) (c := pc' - (j + 1)) (parts.drop (j + 1)) (by rw [hld]; rfl) (by intro h; cases h) (Hs2.out.later (hl5.trans (hl10.trans L4))) (by simp; omega) (by have := L4.size; omega) (fun A5 c5 w5 ho5 hg5 => ?_)
          have L5 : Later W10 w5 := Later.grown L4 hg5 (fun g hg => (World.ownsRow.lt O4 g hg).1)
          refine ⟨HS.out _ (C12.later L5) (DPc.later L5), fun hHeld => ?_⟩
          simp only [Act.put, List.setIfInBounds_toArray, List.set_cons_zero, List.set_cons_succ]
          have hlen : (parts.take j ++ parts.drop (j + 1)).length = parts.length - 1 := by simp; omega
          rw [hlen] at ho5 ⊢
          refine take_at (i := 21) (d := 98) (v := ?_) rfl rfl (by kernel_rfl) (by kernel_rfl) (by kernel_rfl) (fun _ _ _ h => h) (by rfl) ?_ (by assumption) ?_
          rotate_left
          · (intro w hSw; (try dsimp only at hSw); go_simp; (try with_reducible rfl))
          simp only [Act.put, List.setIfInBounds_toArray, List.set_cons_zero, List.set_cons_succ]
          refine take_at (i := 22) (d := 99) (v := ?_) rfl rfl (by kernel_rfl) (by kernel_rfl) (by kernel_rfl) (fun _ _ _ h => h) (by rfl) ?_ (by assumption) ?_
          rotate_left
          · (intro w hSw; (try dsimp only at hSw); go_simp; (try with_reducible rfl))
          simp only [Act.put, List.setIfInBounds_toArray, List.set_cons_zero, List.set_cons_succ]
          have OS := Ho10.out.later L5
          obtain ⟨x0, x1, fz, zx⟩ := OS.atPly hil
          have f0 := fz (i * 2)
          have f1 := fz (i * 2 + 1)
          have hz5 := L5.size
          clear hHeld
          refine store_at (i := 23) (w' := (w5.setCell ⟨gb10, i * 2, none⟩ (.int .i64 lot)).setCell ⟨gb10, i * 2 + 1, none⟩ (.slice A5 (parts.length - 1) c5)) (by kernel_rfl) rfl rfl (by rfl) (by go_simp) (HS.out _ (((C12.later L5).past (by omega)).past (by omega)) (((DPc.later L5).past (by omega)).past (by omega))) ?_
          have OSet := OwnR.setPly OS i ⟨lot, A5, c5, parts.take j ++ parts.drop (j + 1)⟩
          simp only [hlen] at OSet
          have hnb : (Value.slice (some ⟨gb8, 0, none⟩) ys.length c8).ownBlock ≠ some gb10 := fun e => by simp [Value.ownBlock] at e; omega
          have hP1 := Lib.hid (OwnR.past (o := i * 2 + 1) (u := .slice A5 (parts.length - 1) c5) (OwnR.past (o := i * 2) (u := .int .i64 lot) ho5 (show gb10 < W10.heap.size by omega)) (show gb10 < W10.heap.size by omega))
          have hP2 := Lib.hid OSet
          have hP3' := Lib.hid (own_apart (o := i * 2 + 1) (u := .slice A5 (parts.length - 1) c5) (own_apart (o := i * 2) (u := .int .i64 lot) (Hp9.out.later L5) hnb) hnb)
          have hP4 := Lib.hid (show Later W5 ((w5.setCell ⟨gb10, i * 2, none⟩ (.int .i64 lot)).setCell ⟨gb10, i * 2 + 1, none⟩ (.slice A5 (parts.length - 1) c5)) from ((hl10.trans L5).put (by omega) _).put (by omega) _)
          clear OSet ho5
          refine wpAnyH_done (by kernel_rfl) ?_ _
          go_wp2_with fail
          go_meet
          exact ⟨A5, c5, hP1.out, hP2.out, hP3'.out, ((C11.later L5).past (by omega)).past (by omega), ((C12.later L5).past (by omega)).past (by omega), ((C13.later L5).past (by omega)).past (by omega), by simp; omega, hP4.out⟩
      case rest =>
        obtain ⟨A11, c11, ho11, hoS, hoO, C11b, C12b, C13b, hz1011, hl11⟩ := hcut
        have ho11' := Lib.hid ho11
        have hoS' := Lib.hid hoS
        have hoO' := Lib.hid hoO
        have hg9b := hg9B
        clear ho11 hoS hoO C11 C12 C13 Ho10 Hp9
        have D5c := D3b.later hl11
        have DPc := DP.later hl11
        have z13c := C13b.lt
        go_upto_region 12 with fail
        go_cut [] from 100 to 107 (fun wx => ∃ A c, Blk wx g13 39 #[.int .i64 len, .int .i64 wd, .int .i64 rx, .int .i64 ry, .slice S1 sz.length d1, .slice S2 pl.length d2, .slice A (ys.length + 1) c] ∧ OwnR wx wc.heap.size 51 2 Py.cells (.slice A (ys.length + 1) c) (ys ++ [⟨lot, some ⟨bb, ob, none⟩, pc', parts⟩]) ∧ OwnR wx B9 51 2 Py.cells (.slice (some ⟨gb10, 0, none⟩) ys.length c10) (ys.set i ⟨lot, A11, c11, parts.take j ++ parts.drop (j + 1)⟩) ∧ OwnR wx Bc 51 2 Py.cells (.slice (some ⟨gb8, 0, none⟩) ys.length c8) (ys.set i ⟨lot + 1, some ⟨bb, ob, none⟩, pc', parts⟩) ∧ OwnR wx W10.heap.size 58 4 qd4 (.slice A11 (parts.length - 1) c11) (parts.take j ++ parts.drop (j + 1)) ∧ Blk wx g11 39 #[.int .i64 len, .int .i64 wd, .int .i64 rx, .int .i64 ry, .slice S1 sz.length d1, .slice S2 pl.length d2, .slice (some ⟨gb8, 0, none⟩) ys.length c8] ∧ Blk wx g12 39 #[.int .i64 len, .int .i64 wd, .int .i64 rx, .int .i64 ry, .slice S1 sz.length d1, .slice S2 pl.length d2, .slice (some ⟨gb10, 0, none⟩) ys.length c10] ∧ Later W5 wx)
        case first =>
          have hS : ∀ w' : World, Blk w' g5 39 #[.int .i64 len, .int .i64 wd, .int .i64 rx, .int .i64 ry, .slice S1 sz.length d1, .slice S2 pl.length d2, .slice (some ⟨bP, oP, none⟩) ys.length pc] → Blk w' g9 51 #[.int .i64 lot, .slice (some ⟨bb, ob, none⟩) parts.length pc'] → (w'.cell? ⟨g5, 6, none⟩ = some (.slice (some ⟨bP, oP, none⟩) ys.length pc) ∧ w'.cell? ⟨g9, 0, none⟩ = some (.int .i64 lot) ∧ w'.cell? ⟨g9, 1, none⟩ = some (.slice (some ⟨bb, ob, none⟩) parts.length pc') ∧ g5 < w'.heap.size ∧ g9 < w'.heap.size) := fun w' h1 h2 => ⟨h1.cell 6, h2.cell 0, h2.cell 1, h1.lt, h2.lt⟩
          have HS := Lib.hid hS
          have hA1 : Later wc (wc.drew.alloc (.cells #[] 51)) := (Later.refl _).drew.alloc _
          have hA2 : Later wc (wc.drew.alloc (.cells #[.int .i64 lot, .slice (some ⟨bb, ob, none⟩) parts.length pc'] 51)) := (Later.refl _).drew.alloc _
          have HA1 := Lib.hid hA1
          have HA2 := Lib.hid hA2
          clear hA1 hA2
          refine wp_region_held_drew (S := fun w' : World => w'.cell? ⟨g5, 6, none⟩ = some (.slice (some ⟨bP, oP, none⟩) ys.length pc) ∧ w'.cell? ⟨g9, 0, none⟩ = some (.int .i64 lot) ∧ w'.cell? ⟨g9, 1, none⟩ = some (.slice (some ⟨bb, ob, none⟩) parts.length pc') ∧ g5 < w'.heap.size ∧ g9 < w'.heap.size) (by kernel_rfl) (hS _ (Blk.drew D5c) (Blk.drew DPc)) (fun hHeld => ?_)
          refine take_at (i := 1) (d := 101) (v := ?_) rfl rfl (by kernel_rfl) (by kernel_rfl) (by kernel_rfl) (fun _ _ _ h => h) (by rfl) ?_ (by assumption) ?_
          rotate_left
          · (intro w hSw; (try dsimp only at hSw); go_simp; (try with_reducible rfl))
          simp only [Act.put, List.setIfInBounds_toArray, List.set_cons_zero, List.set_cons_succ]
          refine take_at (i := 2) (d := 102) (v := ?_) rfl rfl (by kernel_rfl) (by kernel_rfl) (by kernel_rfl) (fun _ _ _ h => h) (by rfl) ?_ (by assumption) ?_
          rotate_left
          · (intro w hSw; (try dsimp only at hSw); go_simp; (try with_reducible rfl))
          simp only [Act.put, List.setIfInBounds_toArray, List.set_cons_zero, List.set_cons_succ]
          refine take_at (i := 4) (d := 104) (v := ?_) rfl rfl (by kernel_rfl) (by kernel_rfl) (by kernel_rfl) (fun _ _ _ h => h) (by rfl) ?_ (by assumption) ?_
          rotate_left
          · (intro w hSw; (try dsimp only at hSw); go_simp; (try with_reducible rfl))
          simp only [Act.put, List.setIfInBounds_toArray, List.set_cons_zero, List.set_cons_succ]
          clear hHeld
          refine wpAnyH_ready (rs := [0, 5]) (by kernel_rfl) (by simp) (ready_val3 (i := 0) (d := 100) (v := .slice (some ⟨wc.drew.heap.size, 0, none⟩) 0 0) (w' := wc.drew.alloc (.cells #[] 51)) rfl rfl (by rfl) (by go_simp) (HS.out _ (D5c.later HA1.out) (DPc.later HA1.out)) ?_ (ready_val3 (i := 5) (d := 105) (v := .slice (some ⟨wc.drew.heap.size, 0, none⟩) 1 1) (w' := wc.drew.alloc (.cells #[.int .i64 lot, .slice (some ⟨bb, ob, none⟩) parts.length pc'] 51)) rfl rfl (by rfl) (by go_simp) (HS.out _ (D5c.later HA2.out) (DPc.later HA2.out)) ?_ AllReadyH.nil))
          · simp only [Act.put, List.setIfInBounds_toArray, List.set_cons_zero, List.set_cons_succ]
            refine wpAnyH_ready (rs := [3, 5]) (by kernel_rfl) (by simp) (ready_app' (i := 3) (d := 103) slt_ply py_len py_one rfl rfl rfl (.tmp 100) (.tmp 102) rfl (base := wc.heap.size) (l := ([] : List Py)) rfl (OwnR.lit [] #[] rfl py_len (by simp) (by simp) rfl (by simp)) (A := some ⟨bP, oP, none⟩) (c := pc) ys rfl (by intro h; cases h) (Hsrc.out.later (hl5.trans (hl11.trans HA1.out))) (by simp; omega) (by simp) (fun A4 c4 w4 ho4 hg4 => ?_) (ready_val3 (i := 5) (d := 105) (v := .slice (some ⟨wc.drew.heap.size + 1, 0, none⟩) 1 1) (w' := (wc.drew.alloc (.cells #[] 51)).alloc (.cells #[.int .i64 lot, .slice (some ⟨bb, ob, none⟩) parts.length pc'] 51)) rfl rfl (by rfl) (by go_simp) (HS.out _ (D5c.later (HA1.out.alloc _)) (DPc.later (HA1.out.alloc _))) ?_ AllReadyH.nil))
            · have L4 : Later wc w4 := Later.grown HA1.out hg4 (fun g hg => by injection hg with hg; simp at hg; omega)
              refine ⟨HS.out _ (D5c.later L4) (DPc.later L4), fun hS4 => ?_⟩
              simp only [Act.put, List.setIfInBounds_toArray, List.set_cons_zero, List.set_cons_succ]
              have O4 : OwnR w4 wc.heap.size 51 2 Py.cells (.slice A4 ys.length c4) ys := ho4
              have L5 : Later wc (w4.alloc (.cells #[.int .i64 lot, .slice (some ⟨bb, ob, none⟩) parts.length pc'] 51)) := L4.alloc _
              refine val_at (i := 5) (d := 105) (v := .slice (some ⟨w4.heap.size, 0, none⟩) 1 1) (w' := w4.alloc (.cells #[.int .i64 lot, .slice (some ⟨bb, ob, none⟩) parts.length pc'] 51)) (by kernel_rfl) rfl rfl (by rfl) (by go_simp) (HS.out _ (D5c.later L5) (DPc.later L5)) ?_
              simp only [Act.put, List.setIfInBounds_toArray, List.set_cons_zero, List.set_cons_succ]
              have SZ : Blk (w4.alloc (.cells #[.int .i64 lot, .slice (some ⟨bb, ob, none⟩) parts.length pc'] 51)) w4.heap.size 51 #[.int .i64 lot, .slice (some ⟨bb, ob, none⟩) parts.length pc'] := Blk.new _ _ _
              have O5 := OwnR.alloc O4 (.cells #[.int .i64 lot, .slice (some ⟨bb, ob, none⟩) parts.length pc'] 51)
              have HX13 := Lib.hid (C13b.later L5)
              have hz13' : g13 < (w4.alloc (.cells #[.int .i64 lot, .slice (some ⟨bb, ob, none⟩) parts.length pc'] 51)).heap.size := (C13b.later L5).lt
              refine append_at (i := 6) (d := 106) slt_ply py_len py_one (by kernel_rfl) rfl rfl rfl (.tmp 103) (.tmp 105) rfl (base := wc.heap.size) (l := ys) rfl O5 (A := some ⟨w4.heap.size, 0, none⟩) (c := 1) [⟨lot, some ⟨bb, ob, none⟩, pc', parts⟩] rfl (by intro h; cases h) (SrcAt.blk (cs := #[.int .i64 lot, .slice (some ⟨bb, ob, none⟩) parts.length pc']) SZ) (by simp; omega) (by have := L5.size; omega) (fun A12 c12 w6 ho6 hg6 => ?_)
              have L6 : Later wc w6 := Later.grown L5 hg6 (fun g hg => (World.ownsRow.lt O5 g hg).1)
              have K6 := C13b.later L6
              refine ⟨HS.out _ (D5c.later L6) (DPc.later L6), fun hHeld => ?_⟩
              simp only [Act.put, List.setIfInBounds_toArray, List.set_cons_zero, List.set_cons_succ]
              have hle : (ys ++ [(⟨lot, some ⟨bb, ob, none⟩, pc', parts⟩ : Py)]).length = ys.length + 1 := by simp
              simp only [hle] at ho6 ⊢
              refine take_at (i := 7) (d := 107) (v := ?_) rfl rfl (by kernel_rfl) (by kernel_rfl) (by kernel_rfl) (fun _ _ _ h => h) (by rfl) ?_ (by assumption) ?_
              rotate_left
              · (intro w hSw; (try dsimp only at hSw); go_simp; (try with_reducible rfl))
              simp only [Act.put, List.setIfInBounds_toArray, List.set_cons_zero, List.set_cons_succ]
              have kc : w6.cell? ⟨g13, 6, none⟩ = some (.slice (some ⟨bP, oP, none⟩) ys.length pc) := K6.cell 6
              have kf := K6.frozen 6
              have kz := K6.lt
              have hz6 := L6.size
              refine store_at (i := 8) (w' := w6.setCell ⟨g13, 6, none⟩ (.slice A12 (ys.length + 1) c12)) (by kernel_rfl) rfl rfl (by rfl) (by go_simp) (HS.out _ ((D5c.later L6).past (by omega)) ((DPc.later L6).past (by omega))) ?_
              have q1 := Lib.hid (K6.set_ 6 (.slice A12 (ys.length + 1) c12))
              have q2 := Lib.hid (OwnR.past (o := 6) (u := .slice A12 (ys.length + 1) c12) ho6 (show g13 < wc.heap.size by omega))
              have q3 := Lib.hid (OwnR.past (o := 6) (u := .slice A12 (ys.length + 1) c12) (hoS'.out.later L6) (show g13 < B9 by omega))
              have q4 := Lib.hid (OwnR.past (o := 6) (u := .slice A12 (ys.length + 1) c12) (hoO'.out.later L6) (show g13 < Bc by omega))
              have q5 := Lib.hid (OwnR.past (o := 6) (u := .slice A12 (ys.length + 1) c12) (ho11'.out.later L6) (show g13 < W10.heap.size by omega))
              have q6 := Lib.hid (show Later W5 (w6.setCell ⟨g13, 6, none⟩ (.slice A12 (ys.length + 1) c12)) from (hl11.trans L6).put hz3 _)
              clear ho6 kc kf
              refine wpAnyH_done (by kernel_rfl) ?_ _
              go_wp2_with fail
              go_meet
              exact ⟨A12, c12, q1.out, q2.out, q3.out, q4.out, q5.out, (C11b.later L6).past (by omega), (C12b.later L6).past (by omega), q6.out⟩
            · simp only [Act.put, List.setIfInBounds_toArray, List.set_cons_zero, List.set_cons_succ]
              refine append_at (i := 3) (d := 103) slt_ply py_len py_one (by kernel_rfl) rfl rfl rfl (.tmp 100) (.tmp 102) rfl (base := wc.heap.size) (l := ([] : List Py)) rfl (OwnR.alloc (OwnR.lit [] #[] rfl py_len (by simp) (by simp) rfl (by simp)) _) (A := some ⟨bP, oP, none⟩) (c := pc) ys rfl (by intro h; cases h) (Hsrc.out.later (hl5.trans (hl11.trans (HA1.out.alloc _)))) (by simp; omega) (by simp; omega) (fun A4 c4 w4 ho4 hg4 => ?_)
              have L4 : Later wc w4 := Later.grown (HA1.out.alloc _) hg4 (fun g hg => by injection hg with hg; simp at hg; omega)
              refine ⟨HS.out _ (D5c.later L4) (DPc.later L4), fun hS4 => ?_⟩
              simp only [Act.put, List.setIfInBounds_toArray, List.set_cons_zero, List.set_cons_succ]
              have O4 : OwnR w4 wc.heap.size 51 2 Py.cells (.slice A4 ys.length c4) ys := ho4
              have SZ : Blk w4 (wc.drew.heap.size + 1) 51 #[.int .i64 lot, .slice (some ⟨bb, ob, none⟩) parts.length pc'] := Blk.grown (w := (wc.drew.alloc (.cells #[] 51)).alloc (.cells #[.int .i64 lot, .slice (some ⟨bb, ob, none⟩) parts.length pc'] 51)) (by have h := Blk.new (wc.drew.alloc (.cells #[] 51)) 51 #[.int .i64 lot, .slice (some ⟨bb, ob, none⟩) parts.length pc']; simpa using h) hg4 (fun e => by injection e with e; simp at e)
              have HX13 := Lib.hid (C13b.later L4)
              have hz13' : g13 < w4.heap.size := (C13b.later L4).lt
              refine append_at (i := 6) (d := 106) slt_ply py_len py_one (by kernel_rfl) rfl rfl rfl (.tmp 103) (.tmp 105) rfl (base := wc.heap.size) (l := ys) rfl O4 (A := some ⟨(wc.drew.heap.size + 1), 0, none⟩) (c := 1) [⟨lot, some ⟨bb, ob, none⟩, pc', parts⟩] rfl (by intro h; cases h) (SrcAt.blk (cs := #[.int .i64 lot, .slice (some ⟨bb, ob, none⟩) parts.length pc']) SZ) (by simp; omega) (by have := L4.size; omega) (fun A12 c12 w6 ho6 hg6 => ?_)
              have L6 : Later wc w6 := Later.grown L4 hg6 (fun g hg => (World.ownsRow.lt O4 g hg).1)
              have K6 := C13b.later L6
              refine ⟨HS.out _ (D5c.later L6) (DPc.later L6), fun hHeld => ?_⟩
              simp only [Act.put, List.setIfInBounds_toArray, List.set_cons_zero, List.set_cons_succ]
              have hle : (ys ++ [(⟨lot, some ⟨bb, ob, none⟩, pc', parts⟩ : Py)]).length = ys.length + 1 := by simp
              simp only [hle] at ho6 ⊢
              refine take_at (i := 7) (d := 107) (v := ?_) rfl rfl (by kernel_rfl) (by kernel_rfl) (by kernel_rfl) (fun _ _ _ h => h) (by rfl) ?_ (by assumption) ?_
              rotate_left
              · (intro w hSw; (try dsimp only at hSw); go_simp; (try with_reducible rfl))
              simp only [Act.put, List.setIfInBounds_toArray, List.set_cons_zero, List.set_cons_succ]
              have kc : w6.cell? ⟨g13, 6, none⟩ = some (.slice (some ⟨bP, oP, none⟩) ys.length pc) := K6.cell 6
              have kf := K6.frozen 6
              have kz := K6.lt
              have hz6 := L6.size
              refine store_at (i := 8) (w' := w6.setCell ⟨g13, 6, none⟩ (.slice A12 (ys.length + 1) c12)) (by kernel_rfl) rfl rfl (by rfl) (by go_simp) (HS.out _ ((D5c.later L6).past (by omega)) ((DPc.later L6).past (by omega))) ?_
              have q1 := Lib.hid (K6.set_ 6 (.slice A12 (ys.length + 1) c12))
              have q2 := Lib.hid (OwnR.past (o := 6) (u := .slice A12 (ys.length + 1) c12) ho6 (show g13 < wc.heap.size by omega))
              have q3 := Lib.hid (OwnR.past (o := 6) (u := .slice A12 (ys.length + 1) c12) (hoS'.out.later L6) (show g13 < B9 by omega))
              have q4 := Lib.hid (OwnR.past (o := 6) (u := .slice A12 (ys.length + 1) c12) (hoO'.out.later L6) (show g13 < Bc by omega))
              have q5 := Lib.hid (OwnR.past (o := 6) (u := .slice A12 (ys.length + 1) c12) (ho11'.out.later L6) (show g13 < W10.heap.size by omega))
              have q6 := Lib.hid (show Later W5 (w6.setCell ⟨g13, 6, none⟩ (.slice A12 (ys.length + 1) c12)) from (hl11.trans L6).put hz3 _)
              clear ho6 kc kf
              refine wpAnyH_done (by kernel_rfl) ?_ _
              go_wp2_with fail
              go_meet
              exact ⟨A12, c12, q1.out, q2.out, q3.out, q4.out, q5.out, (C11b.later L6).past (by omega), (C12b.later L6).past (by omega), q6.out⟩
          · simp only [Act.put, List.setIfInBounds_toArray, List.set_cons_zero, List.set_cons_succ]
            refine val_at (i := 0) (d := 100) (v := .slice (some ⟨wc.drew.heap.size + 1, 0, none⟩) 0 0) (w' := (wc.drew.alloc (.cells #[.int .i64 lot, .slice (some ⟨bb, ob, none⟩) parts.length pc'] 51)).alloc (.cells #[] 51)) (by kernel_rfl) rfl rfl (by rfl) (by go_simp) (HS.out _ (D5c.later (HA2.out.alloc _)) (DPc.later (HA2.out.alloc _))) ?_
            simp only [Act.put, List.setIfInBounds_toArray, List.set_cons_zero, List.set_cons_succ]
            refine append_at (i := 3) (d := 103) slt_ply py_len py_one (by kernel_rfl) rfl rfl rfl (.tmp 100) (.tmp 102) rfl (base := wc.heap.size) (l := ([] : List Py)) rfl (OwnR.lit [] #[] rfl py_len (by simp) (by simp; try omega) rfl (by simp)) (A := some ⟨bP, oP, none⟩) (c := pc) ys rfl (by intro h; cases h) (Hsrc.out.later (hl5.trans (hl11.trans (HA2.out.alloc _)))) (by simp; try omega) (by simp; try omega) (fun A4 c4 w4 ho4 hg4 => ?_)
            have L4 : Later wc w4 := Later.grown (HA2.out.alloc _) hg4 (fun g hg => by injection hg with hg; simp at hg; omega)
            refine ⟨HS.out _ (D5c.later L4) (DPc.later L4), fun hS4 => ?_⟩
            simp only [Act.put, List.setIfInBounds_toArray, List.set_cons_zero, List.set_cons_succ]
            have O4 : OwnR w4 wc.heap.size 51 2 Py.cells (.slice A4 ys.length c4) ys := ho4
            have SZ : Blk w4 wc.drew.heap.size 51 #[.int .i64 lot, .slice (some ⟨bb, ob, none⟩) parts.length pc'] := Blk.grown (w := (wc.drew.alloc (.cells #[.int .i64 lot, .slice (some ⟨bb, ob, none⟩) parts.length pc'] 51)).alloc (.cells #[] 51)) (Blk.alloc (Blk.new _ _ _) _) hg4 (fun e => by injection e with e; simp at e; try omega)
            have HX13 := Lib.hid (C13b.later L4)
            have hz13' : g13 < w4.heap.size := (C13b.later L4).lt
            refine append_at (i := 6) (d := 106) slt_ply py_len py_one (by kernel_rfl) rfl rfl rfl (.tmp 103) (.tmp 105) rfl (base := wc.heap.size) (l := ys) rfl O4 (A := some ⟨wc.drew.heap.size, 0, none⟩) (c := 1) [⟨lot, some ⟨bb, ob, none⟩, pc', parts⟩] rfl (by intro h; cases h) (SrcAt.blk (cs := #[.int .i64 lot, .slice (some ⟨bb, ob, none⟩) parts.length pc']) SZ) (by simp; omega) (by have := L4.size; omega) (fun A12 c12 w6 ho6 hg6 => ?_)
            have L6 : Later wc w6 := Later.grown L4 hg6 (fun g hg => (World.ownsRow.lt O4 g hg).1)
            have K6 := C13b.later L6
            refine ⟨HS.out _ (D5c.later L6) (DPc.later L6), fun hHeld => ?_⟩
            simp only [Act.put, List.setIfInBounds_toArray, List.set_cons_zero, List.set_cons_succ]
            have hle : (ys ++ [(⟨lot, some ⟨bb, ob, none⟩, pc', parts⟩ : Py)]).length = ys.length + 1 := by simp
            simp only [hle] at ho6 ⊢
            refine take_at (i := 7) (d := 107) (v := ?_) rfl rfl (by kernel_rfl) (by kernel_rfl) (by kernel_rfl) (fun _ _ _ h => h) (by rfl) ?_ (by assumption) ?_
            rotate_left
            · (intro w hSw; (try dsimp only at hSw); go_simp; (try with_reducible rfl))
            simp only [Act.put, List.setIfInBounds_toArray, List.set_cons_zero, List.set_cons_succ]
            have kc : w6.cell? ⟨g13, 6, none⟩ = some (.slice (some ⟨bP, oP, none⟩) ys.length pc) := K6.cell 6
            have kf := K6.frozen 6
            have kz := K6.lt
            have hz6 := L6.size
            refine store_at (i := 8) (w' := w6.setCell ⟨g13, 6, none⟩ (.slice A12 (ys.length + 1) c12)) (by kernel_rfl) rfl rfl (by rfl) (by go_simp) (HS.out _ ((D5c.later L6).past (by omega)) ((DPc.later L6).past (by omega))) ?_
            have q1 := Lib.hid (K6.set_ 6 (.slice A12 (ys.length + 1) c12))
            have q2 := Lib.hid (OwnR.past (o := 6) (u := .slice A12 (ys.length + 1) c12) ho6 (show g13 < wc.heap.size by omega))
            have q3 := Lib.hid (OwnR.past (o := 6) (u := .slice A12 (ys.length + 1) c12) (hoS'.out.later L6) (show g13 < B9 by omega))
            have q4 := Lib.hid (OwnR.past (o := 6) (u := .slice A12 (ys.length + 1) c12) (hoO'.out.later L6) (show g13 < Bc by omega))
            have q5 := Lib.hid (OwnR.past (o := 6) (u := .slice A12 (ys.length + 1) c12) (ho11'.out.later L6) (show g13 < W10.heap.size by omega))
            have q6 := Lib.hid (show Later W5 (w6.setCell ⟨g13, 6, none⟩ (.slice A12 (ys.length + 1) c12)) from (hl11.trans L6).put hz3 _)
            clear ho6 kc kf
            refine wpAnyH_done (by kernel_rfl) ?_ _
            go_wp2_with fail
            go_meet
            exact ⟨A12, c12, q1.out, q2.out, q3.out, q4.out, q5.out, (C11b.later L6).past (by omega), (C12b.later L6).past (by omega), q6.out⟩
        case rest =>
          obtain ⟨A12, c12, E13, hoD, hoS2, hoO2, hoP2, E11, E12, hl12⟩ := hcut
          have hlw5 := hlw.trans hl5
          have hlx := hlw5.trans hl12
          have hok3 : ∀ y ∈ ys, PyOk W3 y := fun y hy => by
            obtain ⟨q, hq, rfl⟩ := List.getElem_of_mem hy
            obtain ⟨_, _, _, _, _, h⟩ := hP3.at_ hq
            exact h
          have hokx : ∀ y ∈ ys, PyOk wc y := fun y hy => (hok3 y hy).later (hl5.trans hl12)
          have hyx : PyOk wc ⟨lot, some ⟨bb, ob, none⟩, pc', parts⟩ := Hyk.out.later (hl5.trans hl12)
          obtain ⟨Ap, cp, ep, p1, p2, p3⟩ := hoP2.qds
          injection ep with ep epl epc
          subst ep epc
          have hlen : (parts.take j ++ parts.drop (j + 1)).length = parts.length - 1 := epl.symm
          have hys : PyOk wc ⟨lot, A11, c11, parts.take j ++ parts.drop (j + 1)⟩ := ⟨p1, p2, p3, fun q hq => by
            rcases List.mem_append.1 hq with hq | hq
            · exact hyx.2.2.2 q (List.mem_of_mem_take hq)
            · exact hyx.2.2.2 q (List.mem_of_mem_drop hq)⟩
          have hP1 : Plys wc (some ⟨gb8, 0, none⟩) (ys.set i ⟨lot + 1, some ⟨bb, ob, none⟩, pc', parts⟩) := (OwnR.list (ok := PyOk) py_len hoO2 (fun y hy => by
            rcases List.mem_or_eq_of_mem_set hy with h | h
            · exact hokx y h
            · rw [h]; exact hyx)).2.2.2
          have hP2 : Plys wc (some ⟨gb10, 0, none⟩) (ys.set i ⟨lot, A11, c11, parts.take j ++ parts.drop (j + 1)⟩) := (OwnR.list (ok := PyOk) py_len hoS2 (fun y hy => by
            rcases List.mem_or_eq_of_mem_set hy with h | h
            · exact hokx y h
            · rw [h]; exact hys)).2.2.2
          have hP3' : Plys wc A12 (ys ++ [⟨lot, some ⟨bb, ob, none⟩, pc', parts⟩]) := (OwnR.list (ok := PyOk) py_len hoD (fun y hy => by
            rcases List.mem_append.1 hy with h | h
            · exact hokx y h
            · rw [List.mem_singleton.1 h]; exact hyx)).2.2.2
          have hb1 : ∀ y ∈ ys.set i ⟨lot + 1, some ⟨bb, ob, none⟩, pc', parts⟩, y.parts.length ≤ 50 := fun y hy => by
            rcases List.mem_or_eq_of_mem_set hy with h | h
            · have := HPy.out y h; omega
            · rw [h]; show parts.length ≤ 50; omega
          have hb2 : ∀ y ∈ ys.set i ⟨lot, A11, c11, parts.take j ++ parts.drop (j + 1)⟩, y.parts.length ≤ 50 := fun y hy => by
            rcases List.mem_or_eq_of_mem_set hy with h | h
            · have := HPy.out y h; omega
            · rw [h]; show (parts.take j ++ parts.drop (j + 1)).length ≤ 50; omega
          have hb3 : ∀ y ∈ ys ++ [⟨lot, some ⟨bb, ob, none⟩, pc', parts⟩], y.parts.length ≤ 50 := fun y hy => by
            rcases List.mem_append.1 hy with h | h
            · have := HPy.out y h; omega
            · rw [List.mem_singleton.1 h]; show parts.length ≤ 50; omega
          have H1 := Lib.hid (fun W (hW : Later wc W) => by
            have h := HC.out S1 S2 (some ⟨gb8, 0, none⟩) d1 d2 c8 (ys.set i ⟨lot + 1, some ⟨bb, ob, none⟩, pc', parts⟩) W (hlx.trans hW) (Plys.later hP1 hW) (by rw [List.length_set]; omega) hb1
            rw [List.length_set, Hset.out, show Py.pl ⟨lot + 1, some ⟨bb, ob, none⟩, pc', parts⟩ = (lot + 1, parts) from rfl, Ho2.out] at h
            exact h)
          have H2 := Lib.hid (fun W (hW : Later wc W) => by
            have h := HC.out S1 S2 (some ⟨gb10, 0, none⟩) d1 d2 c10 (ys.set i ⟨lot, A11, c11, parts.take j ++ parts.drop (j + 1)⟩) W (hlx.trans hW) (Plys.later hP2 hW) (by rw [List.length_set]; omega) hb2
            rw [List.length_set, Hset.out, show Py.pl ⟨lot, A11, c11, parts.take j ++ parts.drop (j + 1)⟩ = (lot, parts.take j ++ parts.drop (j + 1)) from rfl, Hs2.out j hjl] at h
            exact h)
          have H3 := Lib.hid (fun W (hW : Later wc W) => by
            have h := HC.out S1 S2 A12 d1 d2 c12 (ys ++ [⟨lot, some ⟨bb, ob, none⟩, pc', parts⟩]) W (hlx.trans hW) (Plys.later hP3' hW) (by simp; omega) hb3
            rw [List.length_append, List.length_singleton, Hge.out _ Hyi.out.symm, Hd2.out (by rw [← Hyn.out]; omega)] at h
            exact h)
          clear hoD hoS2 hoO2 hoP2 hP1 hP2 hP3' hb1 hb2 hb3 hokx hyx hys p1 p2 p3 epl hlen hok3 hlj hld
          have D1x := D1.later (hl5.trans hl12)
          have k6 : wc.cell? ⟨w.heap.size, 6, none⟩ = some (.slice qa ps.length qc) := D1x.cell 6
          have k7 : wc.cell? ⟨w.heap.size, 7, none⟩ = some (.slice ra rs.length rc) := D1x.cell 7
          have k8 : wc.cell? ⟨w.heap.size, 8, none⟩ = some (.slice la lots.length lc) := D1x.cell 8
          have zk := D1x.lt
          have l0 : wc.cell? ⟨g11, 0, none⟩ = some (.int .i64 len) := E11.cell 0
          have l1 : wc.cell? ⟨g11, 1, none⟩ = some (.int .i64 wd) := E11.cell 1
          have l2 : wc.cell? ⟨g11, 2, none⟩ = some (.int .i64 rx) := E11.cell 2
          have l3 : wc.cell? ⟨g11, 3, none⟩ = some (.int .i64 ry) := E11.cell 3
          have l4 : wc.cell? ⟨g11, 4, none⟩ = some (.slice S1 sz.length d1) := E11.cell 4
          have l5 : wc.cell? ⟨g11, 5, none⟩ = some (.slice S2 pl.length d2) := E11.cell 5
          have l6 : wc.cell? ⟨g11, 6, none⟩ = some (.slice (some ⟨gb8, 0, none⟩) ys.length c8) := E11.cell 6
          have zl := E11.lt
          go_wp2_with (first
            | (go_at_call 9; (with_reducible refine (H1.out _ (by repeat' (with_reducible first | exact Later.refl _ | assumption | refine Later.drew ?_ | refine Later.drewN ?_ _ | refine Later.alloc ?_ _ | refine Later.put ?_ (by omega) _ | refine Later.trans ?_ (by assumption)))).mono ?_); rintro e w13 ⟨rfl, hb13⟩; have E12b := E12.later hb13; have D1y := D1x.later hb13; have j6 : w13.cell? ⟨w.heap.size, 6, none⟩ = some (.slice qa ps.length qc) := D1y.cell 6; have j7 : w13.cell? ⟨w.heap.size, 7, none⟩ = some (.slice ra rs.length rc) := D1y.cell 7; have j8 : w13.cell? ⟨w.heap.size, 8, none⟩ = some (.slice la lots.length lc) := D1y.cell 8; have zj := D1y.lt; have m0 := E12b.cell 0; have m1 := E12b.cell 1; have m2 := E12b.cell 2; have m3 := E12b.cell 3; have m4 := E12b.cell 4; have m5 := E12b.cell 5; have m6 := E12b.cell 6; have zm := E12b.lt)
            | (go_at_call 9; (with_reducible refine (H2.out _ (by repeat' (with_reducible first | exact Later.refl _ | assumption | refine Later.drew ?_ | refine Later.drewN ?_ _ | refine Later.alloc ?_ _ | refine Later.put ?_ (by omega) _ | refine Later.trans ?_ (by assumption)))).mono ?_); rintro e w14 ⟨rfl, hb14⟩; have E13b := (E13.later hb13).later hb14; have D1z := D1y.later hb14; have i6 : w14.cell? ⟨w.heap.size, 6, none⟩ = some (.slice qa ps.length qc) := D1z.cell 6; have i7 : w14.cell? ⟨w.heap.size, 7, none⟩ = some (.slice ra rs.length rc) := D1z.cell 7; have i8 : w14.cell? ⟨w.heap.size, 8, none⟩ = some (.slice la lots.length lc) := D1z.cell 8; have zi := D1z.lt; have n0 := E13b.cell 0; have n1 := E13b.cell 1; have n2 := E13b.cell 2; have n3 := E13b.cell 3; have n4 := E13b.cell 4; have n5 := E13b.cell 5; have n6 := E13b.cell 6; have zn := E13b.lt)
            | (go_at_call 9; (with_reducible refine (H3.out _ (by repeat' (with_reducible first | exact Later.refl _ | assumption | refine Later.drew ?_ | refine Later.drewN ?_ _ | refine Later.alloc ?_ _ | refine Later.put ?_ (by omega) _ | refine Later.trans ?_ (by assumption)))).mono ?_); rintro e w15 ⟨rfl, hb15⟩)
            | (go_at_call 6; (with_reducible refine (HX.out _).mono ?_); rintro e w10 ⟨rfl, hb10⟩))
          go_ret
          exact ⟨rfl, hlx.trans (by repeat' (with_reducible first | exact Later.refl _ | assumption | refine Later.drew ?_ | refine Later.drewN ?_ _ | refine Later.alloc ?_ _ | refine Later.put ?_ (by omega) _ | refine Later.trans ?_ (by assumption)))⟩
  · have HL2 := Lib.hid (fun W (hW : Later w W) => law38_laid_no c W (hc.later hW) hok)
    unfold C8.agg at HL2 ⊢
    clear hok
    obtain ⟨len, wd, rx, ry, s1, c1, sz, s2, c2, pl, qa, qc, ps, ra, rc, rs, la, lc, lots, aa, ac, plies⟩ := c
    simp only [] at HL2 ⊢
    go_enter Try.func4, Try.ntmps4
    go_wp2_with (first | (go_at_call 5; (with_reducible refine (HL2.out _ (by repeat' (with_reducible first | exact Later.refl _ | assumption | refine Later.drew ?_ | refine Later.drewN ?_ _ | refine Later.alloc ?_ _ | refine Later.put ?_ (by omega) _ | refine Later.trans ?_ (by assumption)))).mono ?_); rintro e w2 ⟨rfl, hb2⟩) | (go_at_call 6; (with_reducible refine (HX.out _).mono ?_); rintro e w10 ⟨rfl, hb10⟩))
    go_ret
    exact ⟨rfl, (by repeat' (with_reducible first | exact Later.refl _ | assumption | refine Later.drew ?_ | refine Later.drewN ?_ _ | refine Later.alloc ?_ _ | refine Later.put ?_ (by omega) _ | refine Later.trans ?_ (by assumption)))⟩

end Go.Proofs.Ytdhakoecjmaebaa
