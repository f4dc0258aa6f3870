/-
  The walk of garmentlaw39.exampleHolds: the chapter's examples hold.
-/
import Derived.Test.YtinjdlnikhcbfaaEx39A
import Derived.Test.YtinjdlnikhcbfaaDam
namespace Go.Proofs.Ytinjdlnikhcbfaa
open Go.RowKit
set_option linter.unusedSimpArgs false
set_option linter.unusedVariables false

@[go_sem] theorem build_part (a b c d : Int) (w : World) : (Instr.build 55 #[(0, .int .i64 a), (1, .int .i64 b), (2, .int .i64 c), (3, .int .i64 d)]).run Try.prog w = .ok (.agg #[.int .i64 a, .int .i64 b, .int .i64 c, .int .i64 d]) w := run_build w 55 _ _ (by kernel_rfl)
@[go_sem] theorem build_part2 (c : Int) (w : World) : (Instr.build 55 #[(2, .int .i64 c)]).run Try.prog w = .ok (.agg #[.int .i64 0, .int .i64 0, .int .i64 c, .int .i64 0]) w := run_build w 55 _ _ (by kernel_rfl)
@[go_sem] theorem build_part23 (c d : Int) (w : World) : (Instr.build 55 #[(2, .int .i64 c), (3, .int .i64 d)]).run Try.prog w = .ok (.agg #[.int .i64 0, .int .i64 0, .int .i64 c, .int .i64 d]) w := run_build w 55 _ _ (by kernel_rfl)
@[go_sem] theorem build_ply (A : Option Addr) (n c : Nat) (w : World) : (Instr.build 53 #[(1, .slice A n c)]).run Try.prog w = .ok (.agg #[.int .i64 0, .slice A n c]) w := run_build w 53 _ _ (by kernel_rfl)
@[go_sem] theorem build_roll (s : ByteArray) (l d : Int) (A : Option Addr) (n c : Nat) (w : World) : (Instr.build 60 #[(0, .string s), (2, .int .i64 l), (1, .int .i64 d), (4, .slice A n c)]).run Try.prog w = .ok (.agg #[.string s, .int .i64 d, .int .i64 l, .int .i64 0, .int .i64 0, .int .i64 0, .slice A n c]) w := run_build w 60 _ _ (by kernel_rfl)
@[go_sem] theorem build_lay (A : Option Addr) (n c : Nat) (w : World) : (Instr.build 36 #[(1, .slice A n c)]).run Try.prog w = .ok (.agg #[.int .i64 0, .int .i64 0, .int .i64 0, .int .i64 0, .slice none 0 0, .slice none 0 0, .slice A n c]) w := run_build w 36 _ _ (by kernel_rfl)

theorem qds_one {W : World} {g : Nat} {t : TypeId} {a b c d : Int} (h : Blk W g t #[.int .i64 a, .int .i64 b, .int .i64 c, .int .i64 d]) : Qds W (some ⟨g, 0, none⟩) [⟨a, b, c, d⟩] := fun _ => ⟨g, 0, rfl, by
  intro i p hp
  rcases i with _ | i
  · cases hp; exact ⟨h.cell 0, h.cell 1, h.cell 2, h.cell 3⟩
  · simp at hp⟩
theorem qds_two {W : World} {g : Nat} {t : TypeId} {a b c d a' b' c' d' : Int} (h : Blk W g t #[.int .i64 a, .int .i64 b, .int .i64 c, .int .i64 d, .int .i64 a', .int .i64 b', .int .i64 c', .int .i64 d']) : Qds W (some ⟨g, 0, none⟩) [⟨a, b, c, d⟩, ⟨a', b', c', d'⟩] := fun _ => ⟨g, 0, rfl, by
  intro i p hp
  rcases i with _ | _ | i
  · cases hp; exact ⟨h.cell 0, h.cell 1, h.cell 2, h.cell 3⟩
  · cases hp; exact ⟨h.cell 4, h.cell 5, h.cell 6, h.cell 7⟩
  · simp at hp⟩
instance (n : Int) : Decidable (I64 n) := by unfold I64; exact inferInstance
def exPly (N : Nat) : Py := ⟨0, some ⟨N, 0, none⟩, 1, [⟨0, 20, 120, 0⟩]⟩
/-- The roll of the chapter's example, its flaw at x. -/
def exRoll (x : Int) (F : Nat) : Rl := ⟨⟨#[82]⟩, 50, 200, 0, 0, 0, some ⟨F, 0, none⟩, 1, [⟨x, 2, 5, 1⟩]⟩
theorem exRoll_ok {W : World} {F : Nat} {x : Int} (hx : I64 x) (h : Blk W F 64 #[.int .i64 x, .int .i64 2, .int .i64 5, .int .i64 1]) : RlOk W (exRoll x F) := by
  refine ⟨show (⟨#[82]⟩ : ByteArray).size ≤ maxLen by decide, (by first | decide | (simp [exRoll, exPly, rectPts, maxLen, I64]; done)), (by first | decide | (simp [exRoll, exPly, rectPts, maxLen, I64]; done)), qds_one h, ?_, (by first | decide | (simp [exRoll, exPly, rectPts, maxLen, I64]; done)), (by first | decide | (simp [exRoll, exPly, rectPts, maxLen, I64]; done)), (by first | decide | (simp [exRoll, exPly, rectPts, maxLen, I64]; done)), (by first | decide | (simp [exRoll, exPly, rectPts, maxLen, I64]; done)), (by first | decide | (simp [exRoll, exPly, rectPts, maxLen, I64]; done))⟩
  intro q hq
  rw [List.mem_singleton.1 hq]
  exact ⟨hx, (by first | decide | (simp [exRoll, exPly, rectPts, maxLen, I64]; done)), (by first | decide | (simp [exRoll, exPly, rectPts, maxLen, I64]; done)), (by first | decide | (simp [exRoll, exPly, rectPts, maxLen, I64]; done))⟩
theorem rolls_one {W : World} {g F : Nat} {x : Int} (hx : I64 x) (hF : Blk W F 64 #[.int .i64 x, .int .i64 2, .int .i64 5, .int .i64 1])
    (h : Blk W g 60 #[.string ⟨#[82]⟩, .int .i64 50, .int .i64 200, .int .i64 0, .int .i64 0, .int .i64 0, .slice (some ⟨F, 0, none⟩) 1 1]) : Rolls W (some ⟨g, 0, none⟩) [exRoll x F] := fun _ => ⟨g, 0, rfl, by
  intro i r hr
  rcases i with _ | i
  · cases hr
    refine ⟨fun j v hv => ?_, exRoll_ok hx hF⟩
    rw [Nat.zero_mul, Nat.zero_add, h.cell j, ← hv]
    rw [← List.getElem?_toArray]
    rfl
  · simp at hr⟩

section
variable {W : World} {N F g g1 g3 c c2 : Nat} {A A2 : Option Addr}
theorem ex_hit {x : Int} {v : Bool} (hx : I64 x) (hv : ∀ F, hitR [⟨0, 20, 120, 0⟩] [exRoll x F] (rectPts 8 0 12 4) = (v, 0)) (hN : Blk W N 55 #[.int .i64 0, .int .i64 20, .int .i64 120, .int .i64 0])
    (hF : Blk W F 64 #[.int .i64 x, .int .i64 2, .int .i64 5, .int .i64 1]) (hg : Blk W g 60 #[.string ⟨#[82]⟩, .int .i64 50, .int .i64 200, .int .i64 0, .int .i64 0, .int .i64 0, .slice (some ⟨F, 0, none⟩) 1 1])
    (hc : (rectPts 8 0 12 4).length ≤ c) (hp : Pts W A (rectPts 8 0 12 4)) :
    Calls Try.prog 69 #[.agg #[.int .i64 0, .slice (some ⟨N, 0, none⟩) 1 1], .slice (some ⟨g, 0, none⟩) 1 1, .slice A (rectPts 8 0 12 4).length c] W (Ret (.tuple #[.bool v, .int .i64 0]) W) := by
  have := damage_Hit A (some ⟨N, 0, none⟩) (some ⟨g, 0, none⟩) c 1 1 0 [⟨0, 20, 120, 0⟩] [exRoll x F] (rectPts 8 0 12 4) W (by first | decide | (simp [exRoll, exPly, rectPts, maxLen, I64]; done)) hc hp (by first | decide | (simp [exRoll, exPly, rectPts, maxLen, I64]; done)) (by first | decide | (simp [exRoll, exPly, rectPts, maxLen, I64]; done)) (qds_one hN) (rolls_one hx hF hg) (by first | decide | (simp [exRoll, exPly, rectPts, maxLen, I64]; done))
  rw [hv] at this
  exact this
theorem ex_car {x z i e : Int} (hv : carrierR [⟨0, 0, 50, 0⟩, ⟨0, 0, 60, 40⟩] (rectPts x 0 z 1) = (i, e)) (hN : Blk W N 55 #[.int .i64 0, .int .i64 0, .int .i64 50, .int .i64 0, .int .i64 0, .int .i64 0, .int .i64 60, .int .i64 40])
    (hc : (rectPts x 0 z 1).length ≤ c) (hp : Pts W A (rectPts x 0 z 1)) :
    Calls Try.prog 32 #[.agg #[.int .i64 0, .slice (some ⟨N, 0, none⟩) 2 2], .slice A (rectPts x 0 z 1).length c] W (Ret (.tuple #[.int .i64 i, .int .i64 e]) W) := by
  have := damage_Carrier A (some ⟨N, 0, none⟩) c 2 0 [⟨0, 0, 50, 0⟩, ⟨0, 0, 60, 40⟩] (rectPts x 0 z 1) W (by first | decide | (simp [exRoll, exPly, rectPts, maxLen, I64]; done)) hc hp (by first | decide | (simp [exRoll, exPly, rectPts, maxLen, I64]; done)) (by first | decide | (simp [exRoll, exPly, rectPts, maxLen, I64]; done)) (qds_two hN)
  rw [hv] at this
  exact this
theorem ex_car1 {x z i e : Int} (hv : carrierR [⟨0, 20, 120, 0⟩] (rectPts x 0 z 1) = (i, e)) (hN : Blk W N 55 #[.int .i64 0, .int .i64 20, .int .i64 120, .int .i64 0])
    (hc : (rectPts x 0 z 1).length ≤ c) (hp : Pts W A (rectPts x 0 z 1)) :
    Calls Try.prog 32 #[.agg #[.int .i64 0, .slice (some ⟨N, 0, none⟩) 1 1], .slice A (rectPts x 0 z 1).length c] W (Ret (.tuple #[.int .i64 i, .int .i64 e]) W) := by
  have := damage_Carrier A (some ⟨N, 0, none⟩) c 1 0 [⟨0, 20, 120, 0⟩] (rectPts x 0 z 1) W (by first | decide | (simp [exRoll, exPly, rectPts, maxLen, I64]; done)) hc hp (by first | decide | (simp [exRoll, exPly, rectPts, maxLen, I64]; done)) (by first | decide | (simp [exRoll, exPly, rectPts, maxLen, I64]; done)) (qds_one hN)
  rw [hv] at this
  exact this
theorem ex_tab (hN : Blk W N 55 #[.int .i64 0, .int .i64 20, .int .i64 120, .int .i64 0])
    (hF : Blk W F 64 #[.int .i64 30, .int .i64 2, .int .i64 5, .int .i64 1]) (hg : Blk W g 60 #[.string ⟨#[82]⟩, .int .i64 50, .int .i64 200, .int .i64 0, .int .i64 0, .int .i64 0, .slice (some ⟨F, 0, none⟩) 1 1])
    (h1 : Blk W g1 53 #[.int .i64 0, .slice (some ⟨N, 0, none⟩) 1 1, .int .i64 0, .slice (some ⟨N, 0, none⟩) 1 1])
    (h3 : Blk W g3 67 #[.slice A (rectPts 8 0 12 4).length c, .slice A2 (rectPts 0 0 9 9).length c2])
    (hc : (rectPts 8 0 12 4).length ≤ c) (hcm : c ≤ maxLen) (hp : Pts W A (rectPts 8 0 12 4)) (hc2 : (rectPts 0 0 9 9).length ≤ c2) (hcm2 : c2 ≤ maxLen) (hp2 : Pts W A2 (rectPts 0 0 9 9)) :
    Calls Try.prog 31 #[.agg #[.int .i64 0, .int .i64 0, .int .i64 0, .int .i64 0, .slice none 0 0, .slice none 0 0, .slice (some ⟨g1, 0, none⟩) 2 2], .slice (some ⟨g, 0, none⟩) 1 1, .slice (some ⟨g3, 0, none⟩) 2 2] W
      (fun e w' => ∃ A c, e = .returned (.tuple #[.slice A 2 c, .int .i64 0]) ∧ Tab w' A [[true, false], [true, false]] ∧ Later W w') := by
  have hply : PyOk W (exPly N) := ⟨(by first | decide | (simp [exRoll, exPly, rectPts, maxLen, I64]; done)), (by first | decide | (simp [exRoll, exPly, rectPts, maxLen, I64]; done)), qds_one hN, fun q hq => by rw [List.mem_singleton.1 hq]; exact ⟨(by first | decide | (simp [exRoll, exPly, rectPts, maxLen, I64]; done)), (by first | decide | (simp [exRoll, exPly, rectPts, maxLen, I64]; done)), (by first | decide | (simp [exRoll, exPly, rectPts, maxLen, I64]; done)), by decide⟩⟩
  have hy : Plys W (some ⟨g1, 0, none⟩) [exPly N, exPly N] := fun _ => ⟨g1, 0, rfl, by
    intro i r hr
    rcases i with _ | _ | i
    · cases hr
      refine ⟨fun j v hv => ?_, hply⟩
      rcases j with _ | _ | j
      · cases hv; exact h1.cell 0
      · cases hv; exact h1.cell 1
      · simp [Py.cells] at hv
    · cases hr
      refine ⟨fun j v hv => ?_, hply⟩
      rcases j with _ | _ | j
      · cases hv; exact h1.cell 2
      · cases hv; exact h1.cell 3
      · simp [Py.cells] at hv
    · simp at hr⟩
  have hps : Polys W (some ⟨g3, 0, none⟩) [rectPts 8 0 12 4, rectPts 0 0 9 9] := fun _ => ⟨g3, 0, rfl, by
    intro i r hr
    rcases i with _ | _ | i
    · cases hr; exact ⟨_, h3.cell 0, A, c, rfl, hc, hcm, hp⟩
    · cases hr; exact ⟨_, h3.cell 1, A2, c2, rfl, hc2, hcm2, hp2⟩
    · simp at hr⟩
  have := damage_Table_ok (some ⟨g1, 0, none⟩) (some ⟨g, 0, none⟩) (some ⟨g3, 0, none⟩) none none 2 1 2 0 0 0 0 0 0 0 0 [exPly N, exPly N] [exRoll 30 F] [rectPts 8 0 12 4, rectPts 0 0 9 9] W hy (rolls_one (by first | decide | (simp [exRoll, exPly, rectPts, maxLen, I64]; done)) hF hg) hps (by first | decide | (simp [exRoll, exPly, rectPts, maxLen, I64]; done))
    (by intro y hy; simp at hy; rw [hy]; exact (by first | decide | (simp [exRoll, exPly, rectPts, maxLen, I64]; done))) (by intro p hp; simp at hp; rcases hp with rfl | rfl <;> exact (by first | decide | (simp [exRoll, exPly, rectPts, maxLen, I64]; done))) (by first | decide | (simp [exRoll, exPly, rectPts, maxLen, I64]; done)) (by first | decide | (simp [exRoll, exPly, rectPts, maxLen, I64]; done))
  have e1 : tabErr [exRoll 30 F] [rectPts 8 0 12 4, rectPts 0 0 9 9] [exPly N, exPly N] = 0 := by kernel_rfl
  have e2 : tabRows [exRoll 30 F] [rectPts 8 0 12 4, rectPts 0 0 9 9] [exPly N, exPly N] = [[true, false], [true, false]] := by kernel_rfl
  rw [e1, e2] at this
  refine this.mono fun e w' h => ?_
  rcases h with ⟨_, A, c, h1, _, h2, h3⟩ | ⟨h, _⟩
  · exact ⟨A, c, h1, h2, h3⟩
  · exact absurd rfl h
theorem ex_same {g1 g2 : Nat} (hT : Tab W A [[true, false], [true, false]]) (h1 : Blk W g1 4 #[.bool true, .bool false]) (h2 : Blk W g2 4 #[.bool true, .bool false])
    (h3 : Blk W g3 74 #[.slice (some ⟨g1, 0, none⟩) 2 2, .slice (some ⟨g2, 0, none⟩) 2 2]) : Calls Try.prog 70 #[.slice A 2 c, .slice (some ⟨g3, 0, none⟩) 2 2] W (Ret (.bool true) W) := by
  have hb : ∀ g, Blk W g 4 #[.bool true, .bool false] → BoolsV W (.slice (some ⟨g, 0, none⟩) 2 2) [true, false] := fun g h => ⟨_, _, rfl, by decide, fun _ => ⟨g, 0, rfl, by
    intro i x hx
    rcases i with _ | _ | i
    · cases hx; exact h.cell 0
    · cases hx; exact h.cell 1
    · simp at hx⟩⟩
  have hT2 : Tab W (some ⟨g3, 0, none⟩) [[true, false], [true, false]] := fun _ => ⟨g3, 0, rfl, by
    intro i r hr
    rcases i with _ | _ | i
    · cases hr; exact ⟨_, h3.cell 0, hb g1 h1⟩
    · cases hr; exact ⟨_, h3.cell 1, hb g2 h2⟩
    · simp at hr⟩
  have := ref39_Same A (some ⟨g3, 0, none⟩) c 2 [[true, false], [true, false]] [[true, false], [true, false]] W hT hT2 (by decide) (by decide) (by
    intro k
    rcases k with _ | _ | k
    · decide
    · decide
    · simp)
  rw [show sameB [[true, false], [true, false]] [[true, false], [true, false]] = true by decide] at this
  exact this
end

set_option maxHeartbeats 40000000 in
set_option maxRecDepth 100000 in
theorem law39_example (w : World) : Calls Try.prog 30 #[] w (Ret (.bool true) w) := by
  have hv1 : ∀ F, hitR [⟨0, 20, 120, 0⟩] [exRoll 30 F] (rectPts 8 0 12 4) = (true, 0) := fun F => by kernel_rfl
  have hv2 : ∀ F, hitR [⟨0, 20, 120, 0⟩] [exRoll 32 F] (rectPts 8 0 12 4) = (false, 0) := fun F => by kernel_rfl
  have hv3 : carrierR [⟨0, 0, 50, 0⟩, ⟨0, 0, 60, 40⟩] (rectPts 42 0 48 1) = (0, 0) := by kernel_rfl
  have hv4 : carrierR [⟨0, 0, 50, 0⟩, ⟨0, 0, 60, 40⟩] (rectPts 45 0 55 1) = (1, 0) := by kernel_rfl
  have hv5 : carrierR [⟨0, 20, 120, 0⟩] (rectPts 95 0 105 1) = (0, 20) := by kernel_rfl
  go_enter Try.func30, Try.ntmps30
  go_upto_region 6 with (first | (go_at_call 68; refine (law39_rect _ _ _ _ _).mono ?_; rintro e w1 ⟨A1, c1, rfl, h1, h2, h3, hb1⟩))
  have hl1 : Later w w1 := (by repeat' (with_reducible first | exact Later.refl _ | assumption | refine Later.drew ?_ | refine Later.drewN ?_ _ | refine Later.alloc ?_ _ | refine Later.put ?_ (by omega) _ | refine Later.trans ?_ (by assumption)))
  have B0 : Blk w1 w.heap.size 55 #[.int .i64 0, .int .i64 20, .int .i64 120, .int .i64 0] := by refine Blk.later ?_ hb1; exact (by repeat' (with_reducible first | assumption | (refine Blk.newAt ?_; simp; done) | refine Blk.alloc ?_ _ | refine Blk.drew ?_ | refine Blk.drewN ?_ _ | refine Blk.later ?_ (by assumption)))
  have B1 : Blk w1 (w.heap.size + 1) 53 #[.int .i64 0, .slice (some ⟨w.heap.size, 0, none⟩) 1 1] := by refine Blk.later ?_ hb1; exact (by repeat' (with_reducible first | assumption | (refine Blk.newAt ?_; simp; done) | refine Blk.alloc ?_ _ | refine Blk.drew ?_ | refine Blk.drewN ?_ _ | refine Blk.later ?_ (by assumption)))
  have B2 : Blk w1 (w.heap.size + 1 + 1) 64 #[.int .i64 30, .int .i64 2, .int .i64 5, .int .i64 1] := by refine Blk.later ?_ hb1; exact (by repeat' (with_reducible first | assumption | (refine Blk.newAt ?_; simp; done) | refine Blk.alloc ?_ _ | refine Blk.drew ?_ | refine Blk.drewN ?_ _ | refine Blk.later ?_ (by assumption)))
  have B3 : Blk w1 (w.heap.size + 1 + 1 + 1) 60 #[.string ⟨#[82]⟩, .int .i64 50, .int .i64 200, .int .i64 0, .int .i64 0, .int .i64 0, .slice (some ⟨w.heap.size + 1 + 1, 0, none⟩) 1 1] := by refine Blk.later ?_ hb1; exact (by repeat' (with_reducible first | assumption | (refine Blk.newAt ?_; simp; done) | refine Blk.alloc ?_ _ | refine Blk.drew ?_ | refine Blk.drewN ?_ _ | refine Blk.later ?_ (by assumption)))
  have B4 : Blk w1 (w.heap.size + 1 + 1 + 1 + 1) 60 #[.string ⟨#[82]⟩, .int .i64 50, .int .i64 200, .int .i64 0, .int .i64 0, .int .i64 0, .slice (some ⟨w.heap.size + 1 + 1 + 1 + 1 + 1, 0, none⟩) 1 1] := by refine Blk.later ?_ hb1; exact (by repeat' (with_reducible first | assumption | (refine Blk.newAt ?_; simp; done) | refine Blk.alloc ?_ _ | refine Blk.drew ?_ | refine Blk.drewN ?_ _ | refine Blk.later ?_ (by assumption)))
  have B5 : Blk w1 (w.heap.size + 1 + 1 + 1 + 1 + 1) 64 #[.int .i64 32, .int .i64 2, .int .i64 5, .int .i64 1] := by refine Blk.later ?_ hb1; exact (by repeat' (with_reducible first | assumption | (refine Blk.newAt ?_; simp; done) | refine Blk.alloc ?_ _ | refine Blk.drew ?_ | refine Blk.drewN ?_ _ | refine Blk.later ?_ (by assumption)))
  clear hb1
  have z1 := B1.lt
  have z3 := B3.lt
  have z4 := B4.lt
  generalize w.heap.size = n0 at *
  generalize n0 + 1 = n1 at *
  generalize n1 + 1 = n2 at *
  generalize n2 + 1 = n3 at *
  generalize n3 + 1 = n4 at *
  generalize n4 + 1 = n5 at *
  have p0 : w1.cell? ⟨n1, 0, none⟩ = some (.int .i64 0) := B1.cell 0
  have p1 : w1.cell? ⟨n1, 1, none⟩ = some (.slice (some ⟨n0, 0, none⟩) 1 1) := B1.cell 1
  have r0 : w1.cell? ⟨n3, 0, none⟩ = some (.string ⟨#[82]⟩) := B3.cell 0
  have r1 : w1.cell? ⟨n3, 1, none⟩ = some (.int .i64 50) := B3.cell 1
  have r2 : w1.cell? ⟨n3, 2, none⟩ = some (.int .i64 200) := B3.cell 2
  have r3 : w1.cell? ⟨n3, 3, none⟩ = some (.int .i64 0) := B3.cell 3
  have r4 : w1.cell? ⟨n3, 4, none⟩ = some (.int .i64 0) := B3.cell 4
  have r5 : w1.cell? ⟨n3, 5, none⟩ = some (.int .i64 0) := B3.cell 5
  have r6 : w1.cell? ⟨n3, 6, none⟩ = some (.slice (some ⟨n2, 0, none⟩) 1 1) := B3.cell 6
  go_upto_region 7 with (first | (go_at_call 69; refine (ex_hit (F := n2) (by decide) hv1 (by repeat' (with_reducible first | assumption | (refine Blk.newAt ?_; simp; done) | refine Blk.alloc ?_ _ | refine Blk.drew ?_ | refine Blk.drewN ?_ _ | refine Blk.later ?_ (by assumption))) (by repeat' (with_reducible first | assumption | (refine Blk.newAt ?_; simp; done) | refine Blk.alloc ?_ _ | refine Blk.drew ?_ | refine Blk.drewN ?_ _ | refine Blk.later ?_ (by assumption))) (by repeat' (with_reducible first | assumption | (refine Blk.newAt ?_; simp; done) | refine Blk.alloc ?_ _ | refine Blk.drew ?_ | refine Blk.drewN ?_ _ | refine Blk.later ?_ (by assumption))) h1 (h3.later (by repeat' (with_reducible first | exact Later.refl _ | assumption | refine Later.drew ?_ | refine Later.drewN ?_ _ | refine Later.alloc ?_ _ | refine Later.put ?_ (by omega) _ | refine Later.trans ?_ (by assumption))))).mono ?_; rintro e w2 ⟨rfl, hb2⟩))
  have hl12 : Later w1 w2 := ((Later.refl _).alloc _).trans hb2
  have hl2 : Later w w2 := hl1.trans hl12
  replace B0 := B0.later hl12
  replace B1 := B1.later hl12
  replace B2 := B2.later hl12
  replace B3 := B3.later hl12
  replace B4 := B4.later hl12
  replace B5 := B5.later hl12
  replace h3 := h3.later hl12
  clear p0 p1 r0 r1 r2 r3 r4 r5 r6
  clear hb2 hl12 hl1 hv1
  have p0 : w2.cell? ⟨n1, 0, none⟩ = some (.int .i64 0) := B1.cell 0
  have p1 : w2.cell? ⟨n1, 1, none⟩ = some (.slice (some ⟨n0, 0, none⟩) 1 1) := B1.cell 1
  have r0 : w2.cell? ⟨n3, 0, none⟩ = some (.string ⟨#[82]⟩) := B3.cell 0
  have r1 : w2.cell? ⟨n3, 1, none⟩ = some (.int .i64 50) := B3.cell 1
  have r2 : w2.cell? ⟨n3, 2, none⟩ = some (.int .i64 200) := B3.cell 2
  have r3 : w2.cell? ⟨n3, 3, none⟩ = some (.int .i64 0) := B3.cell 3
  have r4 : w2.cell? ⟨n3, 4, none⟩ = some (.int .i64 0) := B3.cell 4
  have r5 : w2.cell? ⟨n3, 5, none⟩ = some (.int .i64 0) := B3.cell 5
  have r6 : w2.cell? ⟨n3, 6, none⟩ = some (.slice (some ⟨n2, 0, none⟩) 1 1) := B3.cell 6
  have s0 : w2.cell? ⟨n4, 0, none⟩ = some (.string ⟨#[82]⟩) := B4.cell 0
  have s1 : w2.cell? ⟨n4, 1, none⟩ = some (.int .i64 50) := B4.cell 1
  have s2 : w2.cell? ⟨n4, 2, none⟩ = some (.int .i64 200) := B4.cell 2
  have s3 : w2.cell? ⟨n4, 3, none⟩ = some (.int .i64 0) := B4.cell 3
  have s4 : w2.cell? ⟨n4, 4, none⟩ = some (.int .i64 0) := B4.cell 4
  have s5 : w2.cell? ⟨n4, 5, none⟩ = some (.int .i64 0) := B4.cell 5
  have s6 : w2.cell? ⟨n4, 6, none⟩ = some (.slice (some ⟨n5, 0, none⟩) 1 1) := B4.cell 6
  go_upto_region 8 with (first | (go_at_call 69; refine (ex_hit (F := n5) (by decide) hv2 (by repeat' (with_reducible first | assumption | (refine Blk.newAt ?_; simp; done) | refine Blk.alloc ?_ _ | refine Blk.drew ?_ | refine Blk.drewN ?_ _ | refine Blk.later ?_ (by assumption))) (by repeat' (with_reducible first | assumption | (refine Blk.newAt ?_; simp; done) | refine Blk.alloc ?_ _ | refine Blk.drew ?_ | refine Blk.drewN ?_ _ | refine Blk.later ?_ (by assumption))) (by repeat' (with_reducible first | assumption | (refine Blk.newAt ?_; simp; done) | refine Blk.alloc ?_ _ | refine Blk.drew ?_ | refine Blk.drewN ?_ _ | refine Blk.later ?_ (by assumption))) h1 (h3.later (by repeat' (with_reducible first | exact Later.refl _ | assumption | refine Later.drew ?_ | refine Later.drewN ?_ _ | refine Later.alloc ?_ _ | refine Later.put ?_ (by omega) _ | refine Later.trans ?_ (by assumption))))).mono ?_; rintro e w3 ⟨rfl, hb3⟩))
  have hl23 : Later w2 w3 := ((Later.refl _).alloc _).trans hb3
  have hl3 : Later w w3 := hl2.trans hl23
  clear s0 s1 s2 s3 s4 s5 s6
  replace B0 := B0.later hl23
  replace B1 := B1.later hl23
  replace B2 := B2.later hl23
  replace B3 := B3.later hl23
  replace B4 := B4.later hl23
  replace B5 := B5.later hl23
  replace h3 := h3.later hl23
  clear p0 p1 r0 r1 r2 r3 r4 r5 r6
  clear hb3 hl23 hl2 hv2 z1 z3 z4
  go_upto_region 9 with fail
  refine name_world (fun W9 hW9 => ?_)
  have hl39 : Later w3 W9 := by rw [hW9]; exact (by repeat' (with_reducible first | exact Later.refl _ | assumption | refine Later.drew ?_ | refine Later.drewN ?_ _ | refine Later.alloc ?_ _ | refine Later.put ?_ (by omega) _ | refine Later.trans ?_ (by assumption)))
  have C0 : Blk W9 w3.heap.size 55 #[.int .i64 0, .int .i64 0, .int .i64 50, .int .i64 0, .int .i64 0, .int .i64 0, .int .i64 60, .int .i64 40] := by rw [hW9]; exact (by repeat' (with_reducible first | assumption | (refine Blk.newAt ?_; simp; done) | refine Blk.alloc ?_ _ | refine Blk.drew ?_ | refine Blk.drewN ?_ _ | refine Blk.later ?_ (by assumption)))
  have C1 : Blk W9 (w3.heap.size + 1) 53 #[.int .i64 0, .slice (some ⟨w3.heap.size, 0, none⟩) 2 2] := by rw [hW9]; exact (by repeat' (with_reducible first | assumption | (refine Blk.newAt ?_; simp; done) | refine Blk.alloc ?_ _ | refine Blk.drew ?_ | refine Blk.drewN ?_ _ | refine Blk.later ?_ (by assumption)))
  have hl9 : Later w W9 := hl3.trans hl39
  clear hW9 hl3
  replace B0 := B0.later hl39
  replace B1 := B1.later hl39
  replace B2 := B2.later hl39
  replace B3 := B3.later hl39
  replace B4 := B4.later hl39
  replace B5 := B5.later hl39
  replace h3 := h3.later hl39
  clear hl39
  generalize w3.heap.size = m0 at *
  generalize m0 + 1 = m1 at *
  have q0 : W9.cell? ⟨m1, 0, none⟩ = some (.int .i64 0) := C1.cell 0
  have q1 : W9.cell? ⟨m1, 1, none⟩ = some (.slice (some ⟨m0, 0, none⟩) 2 2) := C1.cell 1
  have zm := C1.lt
  go_region_held3 (fun w' : World => (∀ a : Addr, (W9.cell? a).isSome = true → w'.cell? a = W9.cell? a) ∧ Later W9 w') (first | assumption | exact keep_call (by assumption) (by assumption) | exact keep_call (by assumption) ((Later.refl _).alloc _) | exact keep_init _)
    (first | (go_at_call 68; refine (law39_rect _ _ _ _ _).mono ?_; rintro e w4 ⟨A4, c4, rfl, k1, k2, k3, hb4⟩) | (go_at_call 32; refine (ex_car hv3 (C0.later (by repeat' (with_reducible first | exact Later.refl _ | assumption | refine Later.drew ?_ | refine Later.drewN ?_ _ | refine Later.alloc ?_ _ | refine Later.put ?_ (by omega) _ | refine Later.trans ?_ (by assumption)))) k1 k3).mono ?_; rintro e w5 ⟨rfl, hb5⟩))
  rename_i hHw
  have hk := hHw.2
  clear hHw q0 q1 zm hb4 hb5 k1 k2 k3 hv3
  replace B0 := B0.later hk
  replace B1 := B1.later hk
  replace B2 := B2.later hk
  replace B3 := B3.later hk
  replace B4 := B4.later hk
  replace B5 := B5.later hk
  replace h3 := h3.later hk
  replace C0 := C0.later hk
  replace C1 := C1.later hk
  replace hl9 := hl9.trans hk
  clear hk
  have q0 : w5.cell? ⟨m1, 0, none⟩ = some (.int .i64 0) := C1.cell 0
  have q1 : w5.cell? ⟨m1, 1, none⟩ = some (.slice (some ⟨m0, 0, none⟩) 2 2) := C1.cell 1
  have zm := C1.lt
  go_wp2
  go_region_held3 (fun w' : World => (∀ a : Addr, (w5.cell? a).isSome = true → w'.cell? a = w5.cell? a) ∧ Later w5 w') (first | assumption | exact keep_call (by assumption) (by assumption) | exact keep_call (by assumption) ((Later.refl _).alloc _) | exact keep_init _)
    (first | (go_at_call 68; refine (law39_rect _ _ _ _ _).mono ?_; rintro e w6 ⟨A6, c6, rfl, k1, k2, k3, hb6⟩) | (go_at_call 32; refine (ex_car hv4 (C0.later (by repeat' (with_reducible first | exact Later.refl _ | assumption | refine Later.drew ?_ | refine Later.drewN ?_ _ | refine Later.alloc ?_ _ | refine Later.put ?_ (by omega) _ | refine Later.trans ?_ (by assumption)))) k1 k3).mono ?_; rintro e w7 ⟨rfl, hb7⟩))
  rename_i hHw
  have hk := hHw.2
  clear hHw q0 q1 zm hb6 hb7 k1 k2 k3 hv4
  replace B0 := B0.later hk
  replace B1 := B1.later hk
  replace B2 := B2.later hk
  replace B3 := B3.later hk
  replace B4 := B4.later hk
  replace B5 := B5.later hk
  replace h3 := h3.later hk
  replace C0 := C0.later hk
  replace C1 := C1.later hk
  replace hl9 := hl9.trans hk
  clear hk
  have p0 : w7.cell? ⟨n1, 0, none⟩ = some (.int .i64 0) := B1.cell 0
  have p1 : w7.cell? ⟨n1, 1, none⟩ = some (.slice (some ⟨n0, 0, none⟩) 1 1) := B1.cell 1
  have r0 : w7.cell? ⟨n3, 0, none⟩ = some (.string ⟨#[82]⟩) := B3.cell 0
  have r1 : w7.cell? ⟨n3, 1, none⟩ = some (.int .i64 50) := B3.cell 1
  have r2 : w7.cell? ⟨n3, 2, none⟩ = some (.int .i64 200) := B3.cell 2
  have r3 : w7.cell? ⟨n3, 3, none⟩ = some (.int .i64 0) := B3.cell 3
  have r4 : w7.cell? ⟨n3, 4, none⟩ = some (.int .i64 0) := B3.cell 4
  have r5 : w7.cell? ⟨n3, 5, none⟩ = some (.int .i64 0) := B3.cell 5
  have r6 : w7.cell? ⟨n3, 6, none⟩ = some (.slice (some ⟨n2, 0, none⟩) 1 1) := B3.cell 6
  have zm := B1.lt
  go_wp2
  go_region_held3 (fun w' : World => (∀ a : Addr, (w7.cell? a).isSome = true → w'.cell? a = w7.cell? a) ∧ Later w7 w') (first | assumption | exact keep_call (by assumption) (by assumption) | exact keep_call (by assumption) ((Later.refl _).alloc _) | exact keep_init _)
    (first | (go_at_call 68; refine (law39_rect _ _ _ _ _).mono ?_; rintro e w8 ⟨A8, c8, rfl, k1, k2, k3, hb8⟩) | (go_at_call 32; refine (ex_car1 hv5 (B0.later (by repeat' (with_reducible first | exact Later.refl _ | assumption | refine Later.drew ?_ | refine Later.drewN ?_ _ | refine Later.alloc ?_ _ | refine Later.put ?_ (by omega) _ | refine Later.trans ?_ (by assumption)))) k1 k3).mono ?_; rintro e w9 ⟨rfl, hb9⟩))
  rename_i hHw
  have hk := hHw.2
  clear hHw zm hb8 hb9 k1 k2 k3 hv5
  replace B0 := B0.later hk
  replace B1 := B1.later hk
  replace B2 := B2.later hk
  replace B3 := B3.later hk
  replace B4 := B4.later hk
  replace B5 := B5.later hk
  replace h3 := h3.later hk
  replace C0 := C0.later hk
  replace C1 := C1.later hk
  replace hl9 := hl9.trans hk
  clear hk p0 p1 r0 r1 r2 r3 r4 r5 r6 C0 C1 B4 B5
  have p0 : w9.cell? ⟨n1, 0, none⟩ = some (.int .i64 0) := B1.cell 0
  have p1 : w9.cell? ⟨n1, 1, none⟩ = some (.slice (some ⟨n0, 0, none⟩) 1 1) := B1.cell 1
  have r0 : w9.cell? ⟨n3, 0, none⟩ = some (.string ⟨#[82]⟩) := B3.cell 0
  have r1 : w9.cell? ⟨n3, 1, none⟩ = some (.int .i64 50) := B3.cell 1
  have r2 : w9.cell? ⟨n3, 2, none⟩ = some (.int .i64 200) := B3.cell 2
  have r3 : w9.cell? ⟨n3, 3, none⟩ = some (.int .i64 0) := B3.cell 3
  have r4 : w9.cell? ⟨n3, 4, none⟩ = some (.int .i64 0) := B3.cell 4
  have r5 : w9.cell? ⟨n3, 5, none⟩ = some (.int .i64 0) := B3.cell 5
  have r6 : w9.cell? ⟨n3, 6, none⟩ = some (.slice (some ⟨n2, 0, none⟩) 1 1) := B3.cell 6
  have zm := B1.lt
  have z3 := B3.lt
  go_wp2
  go_region_held3 (fun w' : World => (∀ a : Addr, (w9.cell? a).isSome = true → w'.cell? a = w9.cell? a) ∧ Later w9 w') (first | assumption | exact keep_call (by assumption) (by assumption) | exact keep_call (by assumption) ((Later.refl _).alloc _) | exact keep_init _)
    (first | (go_at_call 68; refine (law39_rect _ _ _ _ _).mono ?_; rintro e w10 ⟨A10, c10, rfl, k1, k2, k3, hb10⟩) | (go_at_call 31; refine (ex_tab (F := n2) (B0.later (by repeat' (with_reducible first | exact Later.refl _ | assumption | refine Later.drew ?_ | refine Later.drewN ?_ _ | refine Later.alloc ?_ _ | refine Later.put ?_ (by omega) _ | refine Later.trans ?_ (by assumption)))) (B2.later (by repeat' (with_reducible first | exact Later.refl _ | assumption | refine Later.drew ?_ | refine Later.drewN ?_ _ | refine Later.alloc ?_ _ | refine Later.put ?_ (by omega) _ | refine Later.trans ?_ (by assumption)))) (by repeat' (with_reducible first | assumption | (refine Blk.newAt ?_; simp; done) | refine Blk.alloc ?_ _ | refine Blk.drew ?_ | refine Blk.drewN ?_ _ | refine Blk.later ?_ (by assumption))) (by repeat' (with_reducible first | assumption | (refine Blk.newAt ?_; simp; done) | refine Blk.alloc ?_ _ | refine Blk.drew ?_ | refine Blk.drewN ?_ _ | refine Blk.later ?_ (by assumption))) (by repeat' (with_reducible first | assumption | (refine Blk.newAt ?_; simp; done) | refine Blk.alloc ?_ _ | refine Blk.drew ?_ | refine Blk.drewN ?_ _ | refine Blk.later ?_ (by assumption))) h1 h2 (h3.later (by repeat' (with_reducible first | exact Later.refl _ | assumption | refine Later.drew ?_ | refine Later.drewN ?_ _ | refine Later.alloc ?_ _ | refine Later.put ?_ (by omega) _ | refine Later.trans ?_ (by assumption)))) k1 k2 (k3.later (by repeat' (with_reducible first | exact Later.refl _ | assumption | refine Later.drew ?_ | refine Later.drewN ?_ _ | refine Later.alloc ?_ _ | refine Later.put ?_ (by omega) _ | refine Later.trans ?_ (by assumption))))).mono ?_; rintro e w11 ⟨At, ct, rfl, htab, hb11⟩))
  all_goals
    rename_i hHw
    have hk := hHw.2
    replace hl9 := hl9.trans hk
    clear hHw hk p0 p1 r0 r1 r2 r3 r4 r5 r6 B0 B1 B2 B3 h3 zm z3
    go_wp2_with (first | (go_at_call 70; (with_reducible refine (ex_same (g1 := w11.heap.size) (g2 := w11.heap.size + 1) (htab.later (by repeat' (with_reducible first | exact Later.refl _ | assumption | refine Later.drew ?_ | refine Later.drewN ?_ _ | refine Later.alloc ?_ _ | refine Later.put ?_ (by omega) _ | refine Later.trans ?_ (by assumption)))) (by repeat' (with_reducible first | assumption | (refine Blk.newAt ?_; simp; done) | refine Blk.alloc ?_ _ | refine Blk.drew ?_ | refine Blk.drewN ?_ _ | refine Blk.later ?_ (by assumption))) (by repeat' (with_reducible first | assumption | (refine Blk.newAt ?_; simp; done) | refine Blk.alloc ?_ _ | refine Blk.drew ?_ | refine Blk.drewN ?_ _ | refine Blk.later ?_ (by assumption))) (by repeat' (with_reducible first | assumption | (refine Blk.newAt ?_; simp; done) | refine Blk.alloc ?_ _ | refine Blk.drew ?_ | refine Blk.drewN ?_ _ | refine Blk.later ?_ (by assumption)))).mono ?_); rintro e w12 ⟨rfl, hb12⟩))
    go_ret
    exact ⟨rfl, (by repeat' (with_reducible first | exact Later.refl _ | assumption | refine Later.drew ?_ | refine Later.drewN ?_ _ | refine Later.alloc ?_ _ | refine Later.put ?_ (by omega) _ | refine Later.trans ?_ (by assumption)))⟩

end Go.Proofs.Ytinjdlnikhcbfaa
