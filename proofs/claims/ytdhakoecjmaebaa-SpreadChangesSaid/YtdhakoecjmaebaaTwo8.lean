/-
  garmentlaw38.Two, the chapter's example.
-/
import Derived.Test.YtdhakoecjmaebaaSame8
namespace Go.Proofs.Ytdhakoecjmaebaa
open Go.RowKit
set_option linter.unusedSimpArgs false
set_option linter.unusedVariables false

def twoPs : List (List Pt) := [rectPts 0 0 40 5, rectPts 30 0 60 5]
def twoRl (s : ByteArray) (n : Int) : Rl := ⟨s, 10, n, 0, 0, 0, none, 0, []⟩
def twoRs : List Rl := [twoRl ⟨#[65]⟩ 50, twoRl ⟨#[66]⟩ 100]
/-- The example, wherever it lies. -/
def TwoPost (w : World) (e : Ending) (w' : World) : Prop := ∃ c : C8, e = .returned c.agg ∧ C8Ok w' c ∧ Later w w' ∧ c.len = 60 ∧ c.wd = 10 ∧ c.rx = 0 ∧ c.ry = 0 ∧ c.sz = [] ∧ c.pl = [] ∧ c.ps = twoPs ∧ c.rs = twoRs ∧ c.lots = [0, 0] ∧ c.plies = [1]
theorem two_spread : spreadR 60 10 twoPs twoRs [0, 0] [1] = ([((0 : Int), [⟨0, 0, 40, 0⟩, ⟨1, 0, 30, 30⟩])], [⟨0, 0, 40, 50⟩, ⟨1, 0, 30, 100⟩], 0) := by decide +kernel
theorem two_none : (spreadR 60 10 twoPs twoRs [0, 0] []).2.2 = 0 ∧ (spreadR 60 10 twoPs twoRs [0, 0] []).1 = [] ∧ (spreadR 60 10 twoPs twoRs [0, 0] []).2.1.length = 2 := by decide +kernel
theorem two_wide : (spreadR 60 11 twoPs twoRs [0, 0] [1]).2.2 = 17 := by decide +kernel
theorem PtsAt.block8 {w w' : World} {g o : Nat} {l : List Pt} (h : PtsAt w g o l) (he : w'.heap[g]? = w.heap[g]?) : PtsAt w' g o l := fun i p hp => by
  have hc : ∀ k, w'.cell? ⟨g, k, Option.none⟩ = w.cell? ⟨g, k, Option.none⟩ := fun k => World.cell?_of_block (a := ⟨g, k, Option.none⟩) he
  rw [hc, hc]
  exact h i p hp
theorem twoRl_ok {W : World} {s : ByteArray} {n : Int} (hs : s.size ≤ maxLen) (hn : I64 n) : RlOk W (twoRl s n) :=
  ⟨hs, Nat.le_refl _, Nat.zero_le _, (fun h => absurd h (by simp [twoRl])), (fun q hq => by simp [twoRl] at hq), (by unfold I64 twoRl; simp only []; omega), hn, (by unfold I64 twoRl; simp only []; omega), (by unfold I64 twoRl; simp only []; omega), (by unfold I64 twoRl; simp only []; omega)⟩
theorem two_rolls {W : World} {g : Nat} (h : Blk W g 36 #[.string ⟨#[65]⟩, .int .i64 10, .int .i64 50, .int .i64 0, .int .i64 0, .int .i64 0, .slice none 0 0, .string ⟨#[66]⟩, .int .i64 10, .int .i64 100, .int .i64 0, .int .i64 0, .int .i64 0, .slice none 0 0]) : Rolls W (some ⟨g, 0, none⟩) twoRs := fun _ => ⟨g, 0, rfl, by
  intro i r hr
  rcases i with _ | _ | i
  · cases hr
    refine ⟨fun j v hv => ?_, twoRl_ok (by decide) (by unfold I64; omega)⟩
    rw [Nat.zero_mul, Nat.zero_add, h.cell j, ← hv]
    rcases j with _ | _ | _ | _ | _ | _ | _ | j <;> first | rfl | (simp [Rl.cells, twoRl] at hv)
  · cases hr
    refine ⟨fun j v hv => ?_, twoRl_ok (by decide) (by unfold I64; omega)⟩
    rw [show 0 + (0 + 1) * 7 + j = 7 + j by omega, h.cell (7 + j), ← hv]
    rcases j with _ | _ | _ | _ | _ | _ | _ | j <;> first | rfl | (simp [Rl.cells, twoRl] at hv)
  · simp [twoRs] at hr⟩
theorem two_done {w w3 W' : World} {g0 ga gb gp ca cb : Nat} (hg : w.heap.size = g0) (hL3 : Later w w3) (hl' : Later w W') (hga : g0 < ga ∧ ga < w3.heap.size) (hgb : g0 < gb ∧ gb < w3.heap.size) (hgp : g0 < gp ∧ gp < w3.heap.size)
    (a1 : (rectPts 0 0 40 5).length ≤ ca ∧ ca ≤ maxLen) (b1 : (rectPts 30 0 60 5).length ≤ cb ∧ cb ≤ maxLen) (a5 : PtsAt w3 ga 0 (rectPts 0 0 40 5)) (b5 : PtsAt w3 gb 0 (rectPts 30 0 60 5))
    (Dp : Blk w3 gp 82 #[.slice (some ⟨ga, 0, none⟩) (rectPts 0 0 40 5).length ca, .slice (some ⟨gb, 0, none⟩) (rectPts 30 0 60 5).length cb])
    (K : ∀ b, b ≠ g0 → b < w3.heap.size → W'.heap[b]? = w3.heap[b]?)
    (D1 : Blk W' w3.heap.size 36 #[.string ⟨#[65]⟩, .int .i64 10, .int .i64 50, .int .i64 0, .int .i64 0, .int .i64 0, .slice none 0 0, .string ⟨#[66]⟩, .int .i64 10, .int .i64 100, .int .i64 0, .int .i64 0, .int .i64 0, .slice none 0 0])
    (D2 : Blk W' (w3.heap.size + 1) 3 #[.int .i64 0, .int .i64 0]) (D3 : Blk W' (w3.heap.size + 1 + 1) 3 #[.int .i64 1]) :
    TwoPost w (.returned (.agg #[.int .i64 60, .int .i64 10, .int .i64 0, .int .i64 0, .slice none 0 0, .slice none 0 0, .slice (some ⟨gp, 0, none⟩) 2 2, .slice (some ⟨w3.heap.size, 0, none⟩) 2 2, .slice (some ⟨w3.heap.size + 1, 0, none⟩) 2 2, .slice (some ⟨w3.heap.size + 1 + 1, 0, none⟩) 1 1])) W' := by
  refine ⟨⟨60, 10, 0, 0, none, 0, [], none, 0, [], some ⟨gp, 0, none⟩, 2, twoPs, some ⟨w3.heap.size, 0, none⟩, 2, twoRs, some ⟨w3.heap.size + 1, 0, none⟩, 2, [0, 0], some ⟨w3.heap.size + 1 + 1, 0, none⟩, 1, [1]⟩, rfl, ?_, hl', rfl, rfl, rfl, rfl, rfl, rfl, rfl, rfl, rfl, rfl⟩
  have Dp' : Blk W' gp 82 #[.slice (some ⟨ga, 0, none⟩) (rectPts 0 0 40 5).length ca, .slice (some ⟨gb, 0, none⟩) (rectPts 30 0 60 5).length cb] := (K gp (by omega) hgp.2).trans Dp
  have m2 : 2 ≤ maxLen := by decide
  have m1 : 1 ≤ maxLen := by decide
  have pa := a5.block8 (K ga (by omega) hga.2)
  have pb := b5.block8 (K gb (by omega) hgb.2)
  refine ⟨(fun h => absurd h (by simp)), (fun h => absurd h (by simp)), fun _ => ⟨gp, 0, rfl, ?_⟩, two_rolls D1, fun _ => ⟨w3.heap.size + 1, 0, rfl, ?_⟩, fun _ => ⟨w3.heap.size + 1 + 1, 0, rfl, ?_⟩, ⟨Nat.le_refl _, Nat.zero_le _⟩, ⟨Nat.le_refl _, Nat.zero_le _⟩, ⟨Nat.le_refl 2, m2⟩, ⟨Nat.le_refl 2, m2⟩, ⟨Nat.le_refl 2, m2⟩, ⟨Nat.le_refl 1, m1⟩, (by unfold I64; simp only []; omega), (by unfold I64; simp only []; omega), (by unfold I64; simp only []; omega), (by unfold I64; simp only []; omega), (by unfold I64; simp), (by unfold I64; simp)⟩
  · intro i ps hi
    rcases i with _ | _ | i
    · cases hi; exact ⟨_, Dp'.cell 0, some ⟨ga, 0, none⟩, ca, rfl, a1.1, a1.2, fun _ => ⟨ga, 0, rfl, pa⟩⟩
    · cases hi; exact ⟨_, Dp'.cell 1, some ⟨gb, 0, none⟩, cb, rfl, b1.1, b1.2, fun _ => ⟨gb, 0, rfl, pb⟩⟩
    · simp [twoPs] at hi
  · intro i n hi
    rcases i with _ | _ | i
    · cases hi; exact D2.cell 0
    · cases hi; exact D2.cell 1
    · simp at hi
  · intro i n hi
    rcases i with _ | i
    · cases hi; exact D3.cell 0
    · simp at hi
theorem named8 {α : Type} {P : α → Prop} {w : α} (h : ∀ W, W = w → P W) : P w := h w rfl
set_option maxHeartbeats 4000000 in
set_option maxRecDepth 100000 in
theorem law38_Two (w : World) : Calls Try.prog 11 #[] w (TwoPost w) := by
  go_enter Try.func11, Try.ntmps11
  go_upto_region 1 with fail
  refine name_world (fun W0 hW0 => ?_)
  have hl0 : Later w W0 := by rw [hW0]; exact (by repeat' (with_reducible first | exact Later.refl _ | assumption | refine Later.drew ?_ | refine Later.drewN ?_ _ | refine Later.alloc ?_ _ | refine Later.put ?_ (by omega) _ | refine Later.trans ?_ (by assumption)))
  have D0 : Blk W0 w.heap.size 31 #[.int .i64 0, .int .i64 0, .int .i64 0, .int .i64 0, .slice none 0 0, .slice none 0 0, .slice none 0 0, .slice none 0 0, .slice none 0 0, .slice none 0 0] := by rw [hW0]; exact (by repeat' (with_reducible first | assumption | (refine Blk.newAt ?_; simp; done) | refine Blk.alloc ?_ _ | refine Blk.drew ?_ | refine Blk.drewN ?_ _ | refine Blk.later ?_ (by assumption)))
  clear hW0
  have hg0 : w.heap.size ≤ w.heap.size := Nat.le_refl _
  generalize hgg : w.heap.size = g0 at D0 hg0 ⊢
  go_wp2_with (first
    | (go_at_call 24; (with_reducible refine (law38_box 0 40 _).mono ?_); rintro e wa ⟨ga, ca, rfl, a1, a2, a3, a4, a5, hba⟩)
    | (go_at_call 24; (with_reducible refine (law38_box 30 60 _).mono ?_); rintro e wb ⟨gb, cb, rfl, b1, b2, b3, b4, b5, hbb⟩)
    | (go_at_call 25
       with_reducible refine (law38_bolt _ _ _).mono ?_
       rintro e w3 ⟨rfl, hb3⟩
       have DD := D0.later (show Later W0 w3 from (by repeat' (with_reducible first | exact Later.refl _ | assumption | refine Later.drew ?_ | refine Later.drewN ?_ _ | refine Later.alloc ?_ _ | refine Later.put ?_ (by omega) _ | refine Later.trans ?_ (by assumption))))
       have q0 : w3.cell? ⟨g0, 0, none⟩ = some (.int .i64 0) := DD.cell 0
       have q1 : w3.cell? ⟨g0, 1, none⟩ = some (.int .i64 0) := DD.cell 1
       have q2 : w3.cell? ⟨g0, 2, none⟩ = some (.int .i64 0) := DD.cell 2
       have q3 : w3.cell? ⟨g0, 3, none⟩ = some (.int .i64 0) := DD.cell 3
       have q4 : w3.cell? ⟨g0, 4, none⟩ = some (.slice none 0 0) := DD.cell 4
       have q5 : w3.cell? ⟨g0, 5, none⟩ = some (.slice none 0 0) := DD.cell 5
       have q6 : w3.cell? ⟨g0, 6, none⟩ = some (.slice none 0 0) := DD.cell 6
       have q7 : w3.cell? ⟨g0, 7, none⟩ = some (.slice none 0 0) := DD.cell 7
       have q8 : w3.cell? ⟨g0, 8, none⟩ = some (.slice none 0 0) := DD.cell 8
       have q9 : w3.cell? ⟨g0, 9, none⟩ = some (.slice none 0 0) := DD.cell 9
       have r0 := DD.frozen 0
       have r1 := DD.frozen 1
       have r2 := DD.frozen 2
       have r3 := DD.frozen 3
       have r4 := DD.frozen 4
       have r5 := DD.frozen 5
       have r6 := DD.frozen 6
       have r7 := DD.frozen 7
       have r8 := DD.frozen 8
       have r9 := DD.frozen 9
       have zq := DD.lt
       clear DD
       have hl3 : Later wb w3 := (by repeat' (with_reducible first | exact Later.refl _ | assumption | refine Later.drew ?_ | refine Later.drewN ?_ _ | refine Later.alloc ?_ _ | refine Later.put ?_ (by omega) _ | refine Later.trans ?_ (by assumption)))
       have n1 : g0 ≠ w3.heap.size := by omega
       have n2 : g0 ≠ w3.heap.size + 1 := by omega
       have n3 : g0 ≠ w3.heap.size + 1 + 1 := by omega
       have n4 : g0 < w3.heap.size + 1 := by omega
       have n5 : g0 < w3.heap.size + 1 + 1 := by omega
       have n6 : g0 < w3.heap.size + 1 + 1 + 1 := by omega
       have Dp : Blk w3 wb.heap.size 82 #[.slice (some ⟨ga, 0, none⟩) (rectPts 0 0 40 5).length ca, .slice (some ⟨gb, 0, none⟩) (rectPts 30 0 60 5).length cb] := by first | exact Blk.later (Blk.new wb 82 _) hb3 | exact Dp.later hb3
      ))
  refine named8 (P := bodyPost _ _ _ _ _) (fun W' hW' => ?_)
  have hL3 : Later w w3 := hl0.trans (hba.trans (hbb.trans hl3))
  have hl' : Later w W' := by
    have hg := Nat.le_of_eq hgg
    rw [hW']
    exact ((((((((((((hL3.put hg _).put hg _).put hg _).put hg _).put hg _).put hg _).put hg _).put hg _).put hg _).put hg _).alloc _).alloc _).alloc _
  have hex : ∃ V : World, Blk V g0 31 #[.int .i64 60, .int .i64 10, .int .i64 0, .int .i64 0, .slice none 0 0, .slice none 0 0, .slice (some ⟨wb.heap.size, 0, none⟩) 2 2, .slice (some ⟨w3.heap.size, 0, none⟩) 2 2, .slice (some ⟨w3.heap.size + 1, 0, none⟩) 2 2, .slice (some ⟨w3.heap.size + 1 + 1, 0, none⟩) 1 1] ∧ V.heap.size = w3.heap.size ∧ (∀ b, b ≠ g0 → V.heap[b]? = w3.heap[b]?) ∧
      W' = ((V.alloc (.cells #[.string ⟨#[65]⟩, .int .i64 10, .int .i64 50, .int .i64 0, .int .i64 0, .int .i64 0, .slice none 0 0, .string ⟨#[66]⟩, .int .i64 10, .int .i64 100, .int .i64 0, .int .i64 0, .int .i64 0, .slice none 0 0] 36)).alloc (.cells #[.int .i64 0, .int .i64 0] 3)).alloc (.cells #[.int .i64 1] 3) := by
    refine ⟨_, ?_, ?_, ?_, hW'⟩
    · exact ((((((((((D0.later (hba.trans (hbb.trans hl3))).set_ 0 _).set_ 1 _).set_ 2 _).set_ 3 _).set_ 4 _).set_ 5 _).set_ 6 _).set_ 7 _).set_ 8 _).set_ 9 _
    · simp only [World.size_setCell]
    · intro b hb
      rw [Below.heap_setCell _ ⟨g0, 9, none⟩ _ b hb, Below.heap_setCell _ ⟨g0, 8, none⟩ _ b hb, Below.heap_setCell _ ⟨g0, 7, none⟩ _ b hb, Below.heap_setCell _ ⟨g0, 6, none⟩ _ b hb, Below.heap_setCell _ ⟨g0, 5, none⟩ _ b hb, Below.heap_setCell _ ⟨g0, 4, none⟩ _ b hb, Below.heap_setCell _ ⟨g0, 3, none⟩ _ b hb, Below.heap_setCell _ ⟨g0, 2, none⟩ _ b hb, Below.heap_setCell _ ⟨g0, 1, none⟩ _ b hb, Below.heap_setCell _ ⟨g0, 0, none⟩ _ b hb]
  clear hW'
  obtain ⟨V, DV, hsz, hVb, hW'⟩ := hex
  have DW : Blk W' g0 31 #[.int .i64 60, .int .i64 10, .int .i64 0, .int .i64 0, .slice none 0 0, .slice none 0 0, .slice (some ⟨wb.heap.size, 0, none⟩) 2 2, .slice (some ⟨w3.heap.size, 0, none⟩) 2 2, .slice (some ⟨w3.heap.size + 1, 0, none⟩) 2 2, .slice (some ⟨w3.heap.size + 1 + 1, 0, none⟩) 1 1] := by rw [hW']; exact ((DV.alloc _).alloc _).alloc _
  have K : ∀ b, b ≠ g0 → b < w3.heap.size → W'.heap[b]? = w3.heap[b]? := fun b hb hlt => by
    rw [hW']
    exact (((((Later.refl V).alloc _).alloc _).alloc _).block b (by omega)).trans (hVb b hb)
  have D1 : Blk W' w3.heap.size 36 #[.string ⟨#[65]⟩, .int .i64 10, .int .i64 50, .int .i64 0, .int .i64 0, .int .i64 0, .slice none 0 0, .string ⟨#[66]⟩, .int .i64 10, .int .i64 100, .int .i64 0, .int .i64 0, .int .i64 0, .slice none 0 0] := by rw [hW', ← hsz]; exact (by repeat' (with_reducible first | assumption | (refine Blk.newAt ?_; simp; done) | refine Blk.alloc ?_ _ | refine Blk.drew ?_ | refine Blk.drewN ?_ _ | refine Blk.later ?_ (by assumption)))
  have D2 : Blk W' (w3.heap.size + 1) 3 #[.int .i64 0, .int .i64 0] := by rw [hW', ← hsz]; exact (by repeat' (with_reducible first | assumption | (refine Blk.newAt ?_; simp; done) | refine Blk.alloc ?_ _ | refine Blk.drew ?_ | refine Blk.drewN ?_ _ | refine Blk.later ?_ (by assumption)))
  have D3 : Blk W' (w3.heap.size + 1 + 1) 3 #[.int .i64 1] := by rw [hW', ← hsz]; exact (by repeat' (with_reducible first | assumption | (refine Blk.newAt ?_; simp; done) | refine Blk.alloc ?_ _ | refine Blk.drew ?_ | refine Blk.drewN ?_ _ | refine Blk.later ?_ (by assumption)))
  have s1 := hba.size
  have s2 := hbb.size
  have s3 := hl3.size
  have s4 := D0.lt
  have t0 : W'.cell? ⟨g0, 0, none⟩ = some (.int .i64 60) := DW.cell 0
  have t1 : W'.cell? ⟨g0, 1, none⟩ = some (.int .i64 10) := DW.cell 1
  have t2 : W'.cell? ⟨g0, 2, none⟩ = some (.int .i64 0) := DW.cell 2
  have t3 : W'.cell? ⟨g0, 3, none⟩ = some (.int .i64 0) := DW.cell 3
  have t4 : W'.cell? ⟨g0, 4, none⟩ = some (.slice none 0 0) := DW.cell 4
  have t5 : W'.cell? ⟨g0, 5, none⟩ = some (.slice none 0 0) := DW.cell 5
  have t6 : W'.cell? ⟨g0, 6, none⟩ = some (.slice (some ⟨wb.heap.size, 0, none⟩) 2 2) := DW.cell 6
  have t7 : W'.cell? ⟨g0, 7, none⟩ = some (.slice (some ⟨w3.heap.size, 0, none⟩) 2 2) := DW.cell 7
  have t8 : W'.cell? ⟨g0, 8, none⟩ = some (.slice (some ⟨w3.heap.size + 1, 0, none⟩) 2 2) := DW.cell 8
  have t9 : W'.cell? ⟨g0, 9, none⟩ = some (.slice (some ⟨w3.heap.size + 1 + 1, 0, none⟩) 1 1) := DW.cell 9
  refine bodyPost_ret (v := .agg #[.int .i64 60, .int .i64 10, .int .i64 0, .int .i64 0, .slice none 0 0, .slice none 0 0, .slice (some ⟨wb.heap.size, 0, none⟩) 2 2, .slice (some ⟨w3.heap.size, 0, none⟩) 2 2, .slice (some ⟨w3.heap.size + 1, 0, none⟩) 2 2, .slice (some ⟨w3.heap.size + 1 + 1, 0, none⟩) 1 1]) (by simp [results, Try.results11, go_sem, t0, t1, t2, t3, t4, t5, t6, t7, t8, t9]) rfl ?_
  exact two_done hgg hL3 hl' ⟨by omega, by omega⟩ ⟨by omega, by omega⟩ ⟨by omega, Dp.lt⟩ ⟨a1, a2⟩ ⟨b1, b2⟩ (a5.later (hbb.trans hl3)) (b5.later hl3) Dp K D1 D2 D3

end Go.Proofs.Ytdhakoecjmaebaa
