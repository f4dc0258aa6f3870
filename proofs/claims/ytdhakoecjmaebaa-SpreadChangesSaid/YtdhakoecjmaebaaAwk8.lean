/-
  garmentlaw38.awake: the chapter's examples hold.
-/
import Derived.Test.YtdhakoecjmaebaaTwo8
namespace Go.Proofs.Ytdhakoecjmaebaa
open Go.RowKit
set_option linter.unusedSimpArgs false
set_option linter.unusedVariables false

def exParts : List Qd := [⟨0, 0, 40, 0⟩, ⟨1, 0, 30, 30⟩]
def exRests : List Qd := [⟨0, 0, 40, 50⟩, ⟨1, 0, 30, 100⟩]
theorem two_check : scheckR 60 10 twoPs twoRs [0, 0] [((0 : Int), exParts)] = 0 := by decide +kernel
theorem law38_Two' (w : World) : Calls Try.prog 11 #[] w (fun e w' => ∃ s1 d1 s2 d2 qa qc ra rc la lc aa ac, e = .returned (.agg #[.int .i64 60, .int .i64 10, .int .i64 0, .int .i64 0, .slice s1 0 d1, .slice s2 0 d2, .slice qa 2 qc, .slice ra 2 rc, .slice la 2 lc, .slice aa 1 ac]) ∧
    C8Ok w' ⟨60, 10, 0, 0, s1, d1, [], s2, d2, [], qa, qc, twoPs, ra, rc, twoRs, la, lc, [0, 0], aa, ac, [1]⟩ ∧ Later w w') := by
  refine (law38_Two w).mono ?_
  rintro e w' ⟨⟨len, wd, rx, ry, s1, d1, sz, s2, d2, pl, qa, qc, ps, ra, rc, rs, la, lc, lots, aa, ac, plies⟩, he, hc, hl, e1, e2, e3, e4, e5, e6, e7, e8, e9, e10⟩
  simp only [] at e1 e2 e3 e4 e5 e6 e7 e8 e9 e10
  subst e1 e2 e3 e4 e5 e6 e7 e8 e9 e10
  exact ⟨s1, d1, s2, d2, qa, qc, ra, rc, la, lc, aa, ac, he, hc, hl⟩
section
variable {W : World} {s1 s2 qa ra la aa : Option Addr} {d1 d2 qc rc lc ac : Nat}
theorem two_sp (h : C8Ok W ⟨60, 10, 0, 0, s1, d1, [], s2, d2, [], qa, qc, twoPs, ra, rc, twoRs, la, lc, [0, 0], aa, ac, [1]⟩) (wd : Int) (A : Option Addr) (c : Nat) (plies : List Int) (hA : Ints W A plies) (hn : plies.length ≤ 6) :
    Calls Try.prog 8 #[.agg #[.int .i64 60, .int .i64 wd, .int .i64 0, .int .i64 0, .slice s1 0 d1, .slice s2 0 d2], .slice qa 2 qc, .slice ra 2 rc, .slice la 2 lc, .slice A plies.length c] W (SpreadPost 60 wd 0 0 [] [] (spreadR 60 wd twoPs twoRs [0, 0] plies) W) :=
  spread_Spread qa ra la s1 s2 A qc rc lc d1 d2 c 60 wd 0 0 [] [] twoPs twoRs [0, 0] plies W (fun _ => rfl) h.sz (by simp) (fun _ => rfl) h.pl (by simp) h.ps (by decide) h.rs (by decide) h.lots (by decide) hA (by omega)
theorem two_sp1 (h : C8Ok W ⟨60, 10, 0, 0, s1, d1, [], s2, d2, [], qa, qc, twoPs, ra, rc, twoRs, la, lc, [0, 0], aa, ac, [1]⟩) :
    Calls Try.prog 8 #[.agg #[.int .i64 60, .int .i64 10, .int .i64 0, .int .i64 0, .slice s1 0 d1, .slice s2 0 d2], .slice qa 2 qc, .slice ra 2 rc, .slice la 2 lc, .slice aa 1 ac] W (fun e w' => ∃ S1 c1 S2 c2 P pc X xc A k, e = .returned (.tuple #[.agg #[.int .i64 60, .int .i64 10, .int .i64 0, .int .i64 0, .slice S1 0 c1, .slice S2 0 c2, .slice P 1 pc], .slice X 2 xc, .int .i64 0]) ∧ (∀ W2 : World, (∀ b, W.heap.size ≤ b → b < w'.heap.size → W2.heap[b]? = w'.heap[b]?) → Plys W2 P [⟨0, A, k, exParts⟩] ∧ Qds W2 X exRests) ∧ Later W w') := by
  refine (two_sp h 10 aa ac [1] h.plies (by decide)).mono ?_
  intro e w' hp
  rw [two_spread] at hp
  rcases hp with ⟨_, S1, c1, S2, c2, P, pc, X, xc, ys, rfl, hys, _, _, _, _, _, _, _, _, hcl, hl⟩ | ⟨hz, _⟩
  · rcases ys with _ | ⟨y, _ | ⟨z, l⟩⟩
    · simp at hys
    · obtain ⟨lot, A, k, parts⟩ := y
      simp only [List.map_cons, List.map_nil, Py.pl, List.cons.injEq, Prod.mk.injEq, and_true] at hys
      obtain ⟨rfl, rfl⟩ := hys
      exact ⟨S1, c1, S2, c2, P, pc, X, xc, A, k, rfl, fun W2 h2 => ⟨(hcl W2 h2).2.2.1, (hcl W2 h2).2.2.2⟩, hl⟩
    · simp at hys
  · exact absurd rfl hz
theorem two_sp2 (h : C8Ok W ⟨60, 10, 0, 0, s1, d1, [], s2, d2, [], qa, qc, twoPs, ra, rc, twoRs, la, lc, [0, 0], aa, ac, [1]⟩) :
    Calls Try.prog 8 #[.agg #[.int .i64 60, .int .i64 10, .int .i64 0, .int .i64 0, .slice s1 0 d1, .slice s2 0 d2], .slice qa 2 qc, .slice ra 2 rc, .slice la 2 lc, .slice none 0 0] W (fun e w' => ∃ S1 c1 S2 c2 P pc X xc, e = .returned (.tuple #[.agg #[.int .i64 60, .int .i64 10, .int .i64 0, .int .i64 0, .slice S1 0 c1, .slice S2 0 c2, .slice P 0 pc], .slice X 2 xc, .int .i64 0]) ∧ Later W w') := by
  refine (two_sp h 10 none 0 [] (fun h => absurd h (by simp)) (by decide)).mono ?_
  intro e w' hp
  obtain ⟨t1, t2, t3⟩ := two_none
  rcases hp with ⟨_, S1, c1, S2, c2, P, pc, X, xc, ys, rfl, hys, _, _, _, _, _, _, _, _, hcl, hl⟩ | ⟨hz, _⟩
  · rw [t2, List.map_eq_nil_iff] at hys
    subst hys
    rw [t3]
    exact ⟨S1, c1, S2, c2, P, pc, X, xc, rfl, hl⟩
  · exact absurd t1 hz
theorem two_sp3 (h : C8Ok W ⟨60, 10, 0, 0, s1, d1, [], s2, d2, [], qa, qc, twoPs, ra, rc, twoRs, la, lc, [0, 0], aa, ac, [1]⟩) :
    Calls Try.prog 8 #[.agg #[.int .i64 60, .int .i64 11, .int .i64 0, .int .i64 0, .slice s1 0 d1, .slice s2 0 d2], .slice qa 2 qc, .slice ra 2 rc, .slice la 2 lc, .slice aa 1 ac] W (Ret (.tuple #[.agg #[.int .i64 0, .int .i64 0, .int .i64 0, .int .i64 0, .slice none 0 0, .slice none 0 0, .slice none 0 0], .slice none 0 0, .int .i64 17]) W) := by
  refine (two_sp h 11 aa ac [1] h.plies (by decide)).mono ?_
  intro e w' hp
  rcases hp with ⟨hz, _⟩ | ⟨_, rfl, hl⟩
  · rw [two_wide] at hz
    cases hz
  · rw [two_wide]
    exact ⟨rfl, hl⟩
end

@[go_sem] theorem b8_p2 (c : Int) (w : World) : (Instr.build 58 #[(2, .int .i64 c)]).run Try.prog w = .ok (.agg #[.int .i64 0, .int .i64 0, .int .i64 c, .int .i64 0]) w := run_build w 58 _ _ (by kernel_rfl)
@[go_sem] theorem b8_p023 (a c d : Int) (w : World) : (Instr.build 58 #[(0, .int .i64 a), (2, .int .i64 c), (3, .int .i64 d)]).run Try.prog w = .ok (.agg #[.int .i64 a, .int .i64 0, .int .i64 c, .int .i64 d]) w := run_build w 58 _ _ (by kernel_rfl)
@[go_sem] theorem b8_r23 (c d : Int) (w : World) : (Instr.build 61 #[(2, .int .i64 c), (3, .int .i64 d)]).run Try.prog w = .ok (.agg #[.int .i64 0, .int .i64 0, .int .i64 c, .int .i64 d]) w := run_build w 61 _ _ (by kernel_rfl)
@[go_sem] theorem b8_r023 (a c d : Int) (w : World) : (Instr.build 61 #[(0, .int .i64 a), (2, .int .i64 c), (3, .int .i64 d)]).run Try.prog w = .ok (.agg #[.int .i64 a, .int .i64 0, .int .i64 c, .int .i64 d]) w := run_build w 61 _ _ (by kernel_rfl)
theorem qds_two8 {W : World} {g : Nat} {t : TypeId} {a b c d a' b' c' d' : Int} (h : Blk W g t #[.int .i64 a, .int .i64 b, .int .i64 c, .int .i64 d, .int .i64 a', .int .i64 b', .int .i64 c', .int .i64 d']) : Qds W (some ⟨g, 0, none⟩) [⟨a, b, c, d⟩, ⟨a', b', c', d'⟩] := fun _ => ⟨g, 0, rfl, by
  intro i p hp
  rcases i with _ | _ | i
  · cases hp; exact ⟨h.cell 0, h.cell 1, h.cell 2, h.cell 3⟩
  · cases hp; exact ⟨h.cell 4, h.cell 5, h.cell 6, h.cell 7⟩
  · simp at hp⟩
theorem same_ex1 (A B : Option Addr) (ca cb : Nat) (W : World) (ha : Qds W A exParts) (hb : Qds W B exParts) : Calls Try.prog 12 #[.slice A 2 ca, .slice B 2 cb] W (Ret (.bool true) W) := by
  have := ref38_SameParts A B ca cb exParts exParts W (by decide) ha hb
  rw [decide_eq_true_iff.2 rfl] at this
  exact this
theorem same_ex2 (A B : Option Addr) (ca cb : Nat) (W : World) (ha : Qds W A exRests) (hb : Qds W B exRests) : Calls Try.prog 13 #[.slice A 2 ca, .slice B 2 cb] W (Ret (.bool true) W) := by
  have := ref38_SameRests A B ca cb exRests exRests W (by decide) ha hb
  rw [decide_eq_true_iff.2 rfl] at this
  exact this
set_option maxHeartbeats 8000000 in
set_option maxRecDepth 100000 in
theorem law38_awake (w : World) : Calls Try.prog 6 #[] w (Ret (.bool true) w) := by
  go_enter Try.func6, Try.ntmps6
  go_upto_region 2 with (first | (go_at_call 11; (with_reducible refine (law38_Two' _).mono ?_); rintro e w1 ⟨s1, d1, s2, d2, qa, qc, ra, rc, la, lc, aa, ac, rfl, hc, hb1⟩))
  refine name_world (fun W1 hW1 => ?_)
  have hl1 : Later w1 W1 := by rw [hW1]; exact (by repeat' (with_reducible first | exact Later.refl _ | assumption | refine Later.drew ?_ | refine Later.drewN ?_ _ | refine Later.alloc ?_ _ | refine Later.put ?_ (by omega) _ | refine Later.trans ?_ (by assumption)))
  have D1 : Blk W1 w1.heap.size 31 #[.int .i64 60, .int .i64 10, .int .i64 0, .int .i64 0, .slice s1 0 d1, .slice s2 0 d2, .slice qa 2 qc, .slice ra 2 rc, .slice la 2 lc, .slice aa 1 ac] := by rw [hW1]; exact (by repeat' (with_reducible first | assumption | (refine Blk.newAt ?_; simp; done) | refine Blk.alloc ?_ _ | refine Blk.drew ?_ | refine Blk.drewN ?_ _ | refine Blk.later ?_ (by assumption)))
  clear hW1
  have hg1 : w1.heap.size ≤ w1.heap.size := Nat.le_refl _
  generalize hgg : w1.heap.size = g1 at D1 hg1 ⊢
  clear hg1
  have Hgg := Lib.hid hgg
  clear hgg
  have k0 : W1.cell? ⟨g1, 0, none⟩ = some (.int .i64 60) := D1.cell 0
  have k1 : W1.cell? ⟨g1, 1, none⟩ = some (.int .i64 10) := D1.cell 1
  have k2 : W1.cell? ⟨g1, 2, none⟩ = some (.int .i64 0) := D1.cell 2
  have k3 : W1.cell? ⟨g1, 3, none⟩ = some (.int .i64 0) := D1.cell 3
  have k4 : W1.cell? ⟨g1, 4, none⟩ = some (.slice s1 0 d1) := D1.cell 4
  have k5 : W1.cell? ⟨g1, 5, none⟩ = some (.slice s2 0 d2) := D1.cell 5
  have k6 : W1.cell? ⟨g1, 6, none⟩ = some (.slice qa 2 qc) := D1.cell 6
  have k7 : W1.cell? ⟨g1, 7, none⟩ = some (.slice ra 2 rc) := D1.cell 7
  have k8 : W1.cell? ⟨g1, 8, none⟩ = some (.slice la 2 lc) := D1.cell 8
  have k9 : W1.cell? ⟨g1, 9, none⟩ = some (.slice aa 1 ac) := D1.cell 9
  have zk := D1.lt
  go_upto_region 3 with (first | (go_at_call 8; (with_reducible refine (two_sp1 (hc.later hl1)).mono ?_); rintro e w2 ⟨S1, c1, S2, c2, P, pc, X, xc, A, kc, rfl, hcl, hb2⟩))
  refine name_world (fun W3 hW3 => ?_)
  have hl3 : Later w2 W3 := by rw [hW3]; exact (by repeat' (with_reducible first | exact Later.refl _ | assumption | refine Later.drew ?_ | refine Later.drewN ?_ _ | refine Later.alloc ?_ _ | refine Later.put ?_ (by omega) _ | refine Later.trans ?_ (by assumption)))
  have D2 : Blk W3 w2.heap.size 39 #[.int .i64 60, .int .i64 10, .int .i64 0, .int .i64 0, .slice S1 0 c1, .slice S2 0 c2, .slice P 1 pc] := by rw [hW3]; exact (by repeat' (with_reducible first | assumption | (refine Blk.newAt ?_; simp; done) | refine Blk.alloc ?_ _ | refine Blk.drew ?_ | refine Blk.drewN ?_ _ | refine Blk.later ?_ (by assumption)))
  clear hW3
  have D1b := D1.later (hb2.trans hl3)
  have Hcl := Lib.hid hcl
  clear hcl
  obtain ⟨hP0, hX0⟩ := Hcl.out w2 (fun _ _ _ => rfl)
  have hP := Plys.later hP0 hl3
  have hX := hX0.later hl3
  obtain ⟨bp, op, eP, y1, y2, y3⟩ := hP.at_ (show 0 < 1 by omega)
  simp only [List.getElem_cons_zero, Nat.zero_mul, Nat.add_zero] at y1 y2 y3
  have hA : Qds W3 A exParts := y3.2.2.1
  subst eP
  replace y2 : W3.cell? ⟨bp, op + 1, none⟩ = some (.slice A 2 kc) := y2
  have zb := World.block_lt_of_cell? _ _ y2
  have l6 : W3.cell? ⟨w2.heap.size, 6, none⟩ = some (.slice (some ⟨bp, op, none⟩) 1 pc) := D2.cell 6
  have zl := D2.lt
  go_upto_region 5 with (first
    | (go_at_call 12; (with_reducible refine (same_ex1 A _ kc _ _ (hA.later (by repeat' (with_reducible first | exact Later.refl _ | assumption | refine Later.drew ?_ | refine Later.drewN ?_ _ | refine Later.alloc ?_ _ | refine Later.put ?_ (by omega) _ | refine Later.trans ?_ (by assumption)))) (qds_two8 (by repeat' (with_reducible first | assumption | (refine Blk.newAt ?_; simp; done) | refine Blk.alloc ?_ _ | refine Blk.drew ?_ | refine Blk.drewN ?_ _ | refine Blk.later ?_ (by assumption))))).mono ?_); rintro e w4 ⟨rfl, hb4⟩)
    | (go_at_call 13; (with_reducible refine (same_ex2 X _ xc _ _ (hX.later (by repeat' (with_reducible first | exact Later.refl _ | assumption | refine Later.drew ?_ | refine Later.drewN ?_ _ | refine Later.alloc ?_ _ | refine Later.put ?_ (by omega) _ | refine Later.trans ?_ (by assumption)))) (qds_two8 (by repeat' (with_reducible first | assumption | (refine Blk.newAt ?_; simp; done) | refine Blk.alloc ?_ _ | refine Blk.drew ?_ | refine Blk.drewN ?_ _ | refine Blk.later ?_ (by assumption))))).mono ?_); rintro e w5 ⟨rfl, hb5⟩))
  have hl5 : Later W3 w5 := (by repeat' (with_reducible first | exact Later.refl _ | assumption | refine Later.drew ?_ | refine Later.drewN ?_ _ | refine Later.alloc ?_ _ | refine Later.put ?_ (by omega) _ | refine Later.trans ?_ (by assumption)))
  have h15 : Later W1 w5 := hb2.trans (hl3.trans hl5)
  have D1c := D1.later h15
  clear k0 k1 k2 k3 k4 k5 k6 k7 k8 k9 zk y1 y2 zb l6 zl
  have k0 : w5.cell? ⟨g1, 0, none⟩ = some (.int .i64 60) := D1c.cell 0
  have k1 : w5.cell? ⟨g1, 1, none⟩ = some (.int .i64 10) := D1c.cell 1
  have k2 : w5.cell? ⟨g1, 2, none⟩ = some (.int .i64 0) := D1c.cell 2
  have k3 : w5.cell? ⟨g1, 3, none⟩ = some (.int .i64 0) := D1c.cell 3
  have k4 : w5.cell? ⟨g1, 4, none⟩ = some (.slice s1 0 d1) := D1c.cell 4
  have k5 : w5.cell? ⟨g1, 5, none⟩ = some (.slice s2 0 d2) := D1c.cell 5
  have k6 : w5.cell? ⟨g1, 6, none⟩ = some (.slice qa 2 qc) := D1c.cell 6
  have k7 : w5.cell? ⟨g1, 7, none⟩ = some (.slice ra 2 rc) := D1c.cell 7
  have k8 : w5.cell? ⟨g1, 8, none⟩ = some (.slice la 2 lc) := D1c.cell 8
  have k9 : w5.cell? ⟨g1, 9, none⟩ = some (.slice aa 1 ac) := D1c.cell 9
  have zk := D1c.lt
  go_upto_region 6 with (first | (go_at_call 8; (with_reducible refine (two_sp2 (hc.later (hl1.trans h15))).mono ?_); rintro e w6 ⟨T1, e1, T2, e2, P6, p6, X6, x6, rfl, hb6⟩))
  refine name_world (fun W7 hW7 => ?_)
  have hl7 : Later w6 W7 := by rw [hW7]; exact (by repeat' (with_reducible first | exact Later.refl _ | assumption | refine Later.drew ?_ | refine Later.drewN ?_ _ | refine Later.alloc ?_ _ | refine Later.put ?_ (by omega) _ | refine Later.trans ?_ (by assumption)))
  have D5 : Blk W7 w6.heap.size 39 #[.int .i64 60, .int .i64 10, .int .i64 0, .int .i64 0, .slice T1 0 e1, .slice T2 0 e2, .slice P6 0 p6] := by rw [hW7]; exact (by repeat' (with_reducible first | assumption | (refine Blk.newAt ?_; simp; done) | refine Blk.alloc ?_ _ | refine Blk.drew ?_ | refine Blk.drewN ?_ _ | refine Blk.later ?_ (by assumption)))
  clear hW7
  have h57 : Later w5 W7 := hb6.trans hl7
  have D1d := D1c.later h57
  have n5 : w6.heap.size ≠ g1 := by have := D1.lt; have := h15.size; have := hb6.size; omega
  have n2 : w2.heap.size ≠ g1 := by have := D1.lt; have := hb2.size; omega
  have D2d := D2.later (hl5.trans h57)
  clear k0 k1 k2 k3 k4 k5 k6 k7 k8 k9 zk
  have k0 : W7.cell? ⟨g1, 0, none⟩ = some (.int .i64 60) := D1d.cell 0
  have k1 : W7.cell? ⟨g1, 1, none⟩ = some (.int .i64 10) := D1d.cell 1
  have k2 : W7.cell? ⟨g1, 2, none⟩ = some (.int .i64 0) := D1d.cell 2
  have k3 : W7.cell? ⟨g1, 3, none⟩ = some (.int .i64 0) := D1d.cell 3
  have k4 : W7.cell? ⟨g1, 4, none⟩ = some (.slice s1 0 d1) := D1d.cell 4
  have k5 : W7.cell? ⟨g1, 5, none⟩ = some (.slice s2 0 d2) := D1d.cell 5
  have k6 : W7.cell? ⟨g1, 6, none⟩ = some (.slice qa 2 qc) := D1d.cell 6
  have k7 : W7.cell? ⟨g1, 7, none⟩ = some (.slice ra 2 rc) := D1d.cell 7
  have k8 : W7.cell? ⟨g1, 8, none⟩ = some (.slice la 2 lc) := D1d.cell 8
  have k9 : W7.cell? ⟨g1, 9, none⟩ = some (.slice aa 1 ac) := D1d.cell 9
  have zk := D1d.lt
  have f1 := D1d.frozen 1
  go_upto_region 7 with fail
  refine name_world (fun W8 hW8 => ?_)
  have hl8 : Later w1 W8 := by rw [hW8]; exact ((hl1.trans h15).trans h57).put (Nat.le_of_eq Hgg.out) _
  have D1e : Blk W8 g1 31 #[.int .i64 60, .int .i64 11, .int .i64 0, .int .i64 0, .slice s1 0 d1, .slice s2 0 d2, .slice qa 2 qc, .slice ra 2 rc, .slice la 2 lc, .slice aa 1 ac] := by rw [hW8]; exact D1d.set_ 1 _
  have D5e : Blk W8 w6.heap.size 39 #[.int .i64 60, .int .i64 10, .int .i64 0, .int .i64 0, .slice T1 0 e1, .slice T2 0 e2, .slice P6 0 p6] := by rw [hW8]; exact D5.past n5
  have D2e : Blk W8 w2.heap.size 39 #[.int .i64 60, .int .i64 10, .int .i64 0, .int .i64 0, .slice S1 0 c1, .slice S2 0 c2, .slice (some ⟨bp, op, none⟩) 1 pc] := by rw [hW8]; exact D2d.past n2
  have hP8 := (Hcl.out W8 (fun b b1 b2 => by
    rw [hW8]
    refine (Below.heap_setCell _ ⟨g1, 1, none⟩ _ b (by have := D1.lt; simp only [ne_eq]; omega)).trans ?_
    exact (hl3.trans (hl5.trans h57)).block b b2)).1
  clear hW8 k0 k1 k2 k3 k4 k5 k6 k7 k8 k9 zk f1
  have k0 : W8.cell? ⟨g1, 0, none⟩ = some (.int .i64 60) := D1e.cell 0
  have k1 : W8.cell? ⟨g1, 1, none⟩ = some (.int .i64 11) := D1e.cell 1
  have k2 : W8.cell? ⟨g1, 2, none⟩ = some (.int .i64 0) := D1e.cell 2
  have k3 : W8.cell? ⟨g1, 3, none⟩ = some (.int .i64 0) := D1e.cell 3
  have k4 : W8.cell? ⟨g1, 4, none⟩ = some (.slice s1 0 d1) := D1e.cell 4
  have k5 : W8.cell? ⟨g1, 5, none⟩ = some (.slice s2 0 d2) := D1e.cell 5
  have k6 : W8.cell? ⟨g1, 6, none⟩ = some (.slice qa 2 qc) := D1e.cell 6
  have k7 : W8.cell? ⟨g1, 7, none⟩ = some (.slice ra 2 rc) := D1e.cell 7
  have k8 : W8.cell? ⟨g1, 8, none⟩ = some (.slice la 2 lc) := D1e.cell 8
  have k9 : W8.cell? ⟨g1, 9, none⟩ = some (.slice aa 1 ac) := D1e.cell 9
  have zk := D1e.lt
  go_upto_region 8 with (first | (go_at_call 8; (with_reducible refine (two_sp3 (hc.later hl8)).mono ?_); rintro e w9 ⟨rfl, hb9⟩))
  refine name_world (fun W10 hW10 => ?_)
  have hl10 : Later W8 W10 := by rw [hW10]; exact (by repeat' (with_reducible first | exact Later.refl _ | assumption | refine Later.drew ?_ | refine Later.drewN ?_ _ | refine Later.alloc ?_ _ | refine Later.put ?_ (by omega) _ | refine Later.trans ?_ (by assumption)))
  clear hW10 k0 k1 k2 k3 k4 k5 k6 k7 k8 k9 zk
  have D1f := D1e.later hl10
  have k0 : W10.cell? ⟨g1, 0, none⟩ = some (.int .i64 60) := D1f.cell 0
  have k1 : W10.cell? ⟨g1, 1, none⟩ = some (.int .i64 11) := D1f.cell 1
  have k2 : W10.cell? ⟨g1, 2, none⟩ = some (.int .i64 0) := D1f.cell 2
  have k3 : W10.cell? ⟨g1, 3, none⟩ = some (.int .i64 0) := D1f.cell 3
  have k4 : W10.cell? ⟨g1, 4, none⟩ = some (.slice s1 0 d1) := D1f.cell 4
  have k5 : W10.cell? ⟨g1, 5, none⟩ = some (.slice s2 0 d2) := D1f.cell 5
  have k6 : W10.cell? ⟨g1, 6, none⟩ = some (.slice qa 2 qc) := D1f.cell 6
  have k7 : W10.cell? ⟨g1, 7, none⟩ = some (.slice ra 2 rc) := D1f.cell 7
  have k8 : W10.cell? ⟨g1, 8, none⟩ = some (.slice la 2 lc) := D1f.cell 8
  have k9 : W10.cell? ⟨g1, 9, none⟩ = some (.slice aa 1 ac) := D1f.cell 9
  have zk := D1f.lt
  have D5f := D5e.later hl10
  have D2f := D2e.later hl10
  have l56 : W10.cell? ⟨w6.heap.size, 6, none⟩ = some (.slice P6 0 p6) := D5f.cell 6
  have zl5 := D5f.lt
  have l20 : W10.cell? ⟨w2.heap.size, 0, none⟩ = some (.int .i64 60) := D2f.cell 0
  have l21 : W10.cell? ⟨w2.heap.size, 1, none⟩ = some (.int .i64 10) := D2f.cell 1
  have l22 : W10.cell? ⟨w2.heap.size, 2, none⟩ = some (.int .i64 0) := D2f.cell 2
  have l23 : W10.cell? ⟨w2.heap.size, 3, none⟩ = some (.int .i64 0) := D2f.cell 3
  have l24 : W10.cell? ⟨w2.heap.size, 4, none⟩ = some (.slice S1 0 c1) := D2f.cell 4
  have l25 : W10.cell? ⟨w2.heap.size, 5, none⟩ = some (.slice S2 0 c2) := D2f.cell 5
  have l26 : W10.cell? ⟨w2.heap.size, 6, none⟩ = some (.slice (some ⟨bp, op, none⟩) 1 pc) := D2f.cell 6
  have zl2 := D2f.lt
  have hCk : ∀ W, Later W10 W → Calls Try.prog 9 #[.agg #[.int .i64 60, .int .i64 10, .int .i64 0, .int .i64 0, .slice S1 0 c1, .slice S2 0 c2, .slice (some ⟨bp, op, none⟩) 1 pc], .slice qa 2 qc, .slice ra 2 rc, .slice la 2 lc] W (Ret (.int .i64 0) W) := fun W hW => by
    have h := spread_Check qa ra la S1 S2 (some ⟨bp, op, none⟩) qc rc lc 0 c1 0 c2 pc 60 10 0 0 twoPs twoRs [0, 0] [⟨0, A, kc, exParts⟩] W (((hc.later hl8).later (hl10.trans hW)).ps) (by decide) (((hc.later hl8).later (hl10.trans hW)).rs) (by decide) (((hc.later hl8).later (hl10.trans hW)).lots) (by decide) (Plys.later hP8 (hl10.trans hW)) (by simp) (by intro y hy; rw [List.mem_singleton.1 hy]; show 2 ≤ 1000; omega)
    rw [show ([⟨0, A, kc, exParts⟩] : List Py).map Py.pl = [((0 : Int), exParts)] from rfl, two_check] at h
    exact h
  have HCk := Lib.hid hCk
  clear hCk
  go_wp2_with (first | (go_at_call 9; (with_reducible refine (HCk.out _ (by repeat' (with_reducible first | exact Later.refl _ | assumption | refine Later.drew ?_ | refine Later.drewN ?_ _ | refine Later.alloc ?_ _ | refine Later.put ?_ (by omega) _ | refine Later.trans ?_ (by assumption)))).mono ?_); rintro e w11 ⟨rfl, hb11⟩))
  go_ret
  exact ⟨rfl, hb1.trans (hl8.trans (hl10.trans hb11))⟩

end Go.Proofs.Ytdhakoecjmaebaa
