/-
  The walk of triangle.Holds, at a triangle that turns to the left and points that are not outside.
  The walks of triangle.Split's closures: corner, straight.
  The walk of triangle.Split's closure 'free'.
-/
import Derived.Test.YtdhakoecjmaebaaGreatZNorm
import Derived.Deep.DeepCutAuto
/- The walk of triangle.Holds, at a triangle that turns to the left and points that are not outside. -/
namespace Go.Proofs.YtdhakoecjmaebaaGreat
open Go.RowKit
set_option linter.unusedSimpArgs false
set_option linter.unusedVariables false

theorem Blk.new2 (w : World) (o o' : Obj) (t : TypeId) (cs : Array Value) : Blk (((w.alloc o).alloc o').alloc (.cells cs t)) (w.heap.size + 1 + 1) t cs := by
  have := Blk.new ((w.alloc o).alloc o') t cs
  simpa using this

def outP (p : Pt) : Bool := outsideB p.x p.y
theorem out_sm {p : Pt} (h : outP p = false) : SmP p := by
  unfold outP outsideB at h
  simp only [Bool.or_eq_false_iff, decide_eq_false_iff_not] at h
  unfold SmP Sm
  omega
/-- Where q lies in respect of the triangle abc, which turns to the left. -/
def holdsI (a b c q : Pt) : Int :=
  if 0 < crossP a b q ∧ 0 < crossP b c q ∧ 0 < crossP c a q then 1 else if 0 ≤ crossP a b q ∧ 0 ≤ crossP b c q ∧ 0 ≤ crossP c a q then 0 else -1

set_option maxHeartbeats 4000000 in
theorem triangle_Holds (g o k : Nat) (a b c q : Pt) (w : World) (hp : PtsAt w g o [a, b, c]) (ha : outP a = false) (hb : outP b = false) (hc : outP c = false) (hq : outP q = false) (ht : 0 < crossP a b c) :
    Calls Tryz.prog 106 #[.slice (some ⟨g, o, none⟩) 3 k, .agg #[.int .i64 q.x, .int .i64 q.y]] w (Ret (.int .i64 (holdsI a b c q)) w) := by
  have sa := out_sm ha
  have sb := out_sm hb
  have sc := out_sm hc
  have sq := out_sm hq
  have a1 : w.cell? ⟨g, o, none⟩ = some (.int .i64 a.x) := (hp 0 a rfl).1
  have a2 : w.cell? ⟨g, o + 1, none⟩ = some (.int .i64 a.y) := (hp 0 a rfl).2
  have b1 : w.cell? ⟨g, o + 2, none⟩ = some (.int .i64 b.x) := (hp 1 b rfl).1
  have b2 : w.cell? ⟨g, o + 2 + 1, none⟩ = some (.int .i64 b.y) := (hp 1 b rfl).2
  have c1 : w.cell? ⟨g, o + 4, none⟩ = some (.int .i64 c.x) := (hp 2 c rfl).1
  have c2 : w.cell? ⟨g, o + 4 + 1, none⟩ = some (.int .i64 c.y) := (hp 2 c rfl).2
  have hgz : g < w.heap.size := World.block_lt_of_cell? _ _ a1
  have t1 : (crossP a b c == 0) = false := by rw [beq_eq_false_iff_ne]; omega
  unfold outP at ha hb hc hq
  unfold crossP at ht t1
  go_enter Tryz.func106, Tryz.ntmps106
  go_upto_region 3 with (go_at_call 149; refine (triangle_outside _ _ _).mono ?_; rintro e w1 ⟨rfl, hb1⟩; have hL : Later w w1 := (by repeat' (first | exact Later.refl _ | assumption | refine Later.drew ?_ | refine Later.drewN ?_ _ | refine Later.alloc ?_ _ | refine Later.put ?_ (by omega) _ | refine Later.trans ?_ (by assumption))); have a1' := hL.cell a1; have a2' := hL.cell a2; have b1' := hL.cell b1; have b2' := hL.cell b2; have c1' := hL.cell c1; have c2' := hL.cell c2; have qqx : w1.cell? ⟨w.heap.size, 0, none⟩ = some (.int .i64 (q).x) := hb1.cell (by first | assumption | simp [go_sem]); have qqy : w1.cell? ⟨w.heap.size, 1, none⟩ = some (.int .i64 (q).y) := hb1.cell (by first | assumption | simp [go_sem]); clear hb1)
  have hgz1 : g < w1.heap.size := World.block_lt_of_cell? _ _ a1'
  have hgz2 : g < w1.heap.size + 1 := by omega
  have hgz3 : g < w1.heap.size + 1 + 1 := by omega
  go_cut [5, 6, 7] (fun v5 v6 v7 wx => ∃ B5 B6 B7 : Nat, v5 = .pointer (some ⟨B5, 0, none⟩) ∧ v6 = .pointer (some ⟨B6, 0, none⟩) ∧ v7 = .pointer (some ⟨B7, 0, none⟩) ∧ Later w1 wx ∧ Blk wx B5 29 #[.int .i64 a.x, .int .i64 a.y] ∧ Blk wx B6 29 #[.int .i64 b.x, .int .i64 b.y] ∧ Blk wx B7 29 #[.int .i64 c.x, .int .i64 c.y])
  case first =>
    go_region
    all_goals
      go_wp2_with fail
      go_meet
      refine ⟨_, _, _, rfl, rfl, rfl, (by repeat' (first | exact Later.refl _ | assumption | refine Later.drew ?_ | refine Later.drewN ?_ _ | refine Later.alloc ?_ _ | refine Later.put ?_ (by omega) _ | refine Later.trans ?_ (by assumption))), ?_, ?_, ?_⟩ <;> first | exact (((Blk.new _ _ _).alloc _).alloc _).drew | exact ((Blk.new1 _ _ _ _).alloc _).drew | exact (Blk.new2 _ _ _ _ _).drew
  case rest =>
    obtain ⟨B5, B6, B7, rfl, rfl, rfl, hLx, h5, h6, h7⟩ := hcut
    have x1 : wc.cell? ⟨B5, 0, none⟩ = some (.int .i64 a.x) := h5.cell 0
    have x2 : wc.cell? ⟨B5, 1, none⟩ = some (.int .i64 a.y) := h5.cell 1
    have x3 : wc.cell? ⟨B6, 0, none⟩ = some (.int .i64 b.x) := h6.cell 0
    have x4 : wc.cell? ⟨B6, 1, none⟩ = some (.int .i64 b.y) := h6.cell 1
    have x5 : wc.cell? ⟨B7, 0, none⟩ = some (.int .i64 c.x) := h7.cell 0
    have x6 : wc.cell? ⟨B7, 1, none⟩ = some (.int .i64 c.y) := h7.cell 1
    have x7 : wc.cell? ⟨w.heap.size, 0, none⟩ = some (.int .i64 q.x) := hLx.cell (by assumption)
    have x8 : wc.cell? ⟨w.heap.size, 1, none⟩ = some (.int .i64 q.y) := hLx.cell (by assumption)
    have hLc : Later w wc := Later.trans (by assumption) hLx
    go_wp2_with (first | (go_at_call 104; refine (triangle_cross _ _ _ _ _ _ _ sa.1 sa.2 sb.1 sb.2 sc.1 sc.2).mono ?_; rintro e w2 ⟨rfl, hb2⟩))
    have y1 := hb2.cell x1
    have y2 := hb2.cell x2
    have y3 := hb2.cell x3
    have y4 := hb2.cell x4
    have y5 := hb2.cell x5
    have y6 := hb2.cell x6
    have y7 := hb2.cell x7
    have y8 := hb2.cell x8
    have hL2 := hLc.trans hb2
    clear x1 x2 x3 x4 x5 x6 x7 x8
    by_cases hAB : crossI b.x b.y c.x c.y q.x q.y < crossI a.x a.y b.x b.y q.x q.y
    · by_cases hBC : crossI c.x c.y a.x a.y q.x q.y < crossI b.x b.y c.x c.y q.x q.y
      · go_region_held3 (fun w' : World => (∀ a : Addr, (w2.cell? a).isSome = true → w'.cell? a = w2.cell? a) ∧ Later w2 w') (first | assumption | exact keep_call (by assumption) (by assumption) | exact keep_call (by assumption) ((Later.refl _).alloc _) | exact keep_init _)
          (first | (go_at_call 104; refine (triangle_cross _ _ _ _ _ _ _ (by first | exact sa.1 | exact sb.1 | exact sc.1) (by first | exact sa.2 | exact sb.2 | exact sc.2) (by first | exact sa.1 | exact sb.1 | exact sc.1) (by first | exact sa.2 | exact sb.2 | exact sc.2) sq.1 sq.2).mono ?_; rintro e w3 ⟨rfl, hb3⟩))
        rename_i hHw
        have hL3 := hL2.trans hHw.2
        go_wp2
        all_goals
          go_ret
          exact ⟨ret_int (by clear hp hLx hLc hb2 hL2 hHw hL3 h5 h6 h7; (try simp only [beq_iff_eq, beq_eq_false_iff_ne, ne_eq] at *); unfold holdsI crossP; omega), hL3⟩
      · go_region_held3 (fun w' : World => (∀ a : Addr, (w2.cell? a).isSome = true → w'.cell? a = w2.cell? a) ∧ Later w2 w') (first | assumption | exact keep_call (by assumption) (by assumption) | exact keep_call (by assumption) ((Later.refl _).alloc _) | exact keep_init _)
          (first | (go_at_call 104; refine (triangle_cross _ _ _ _ _ _ _ (by first | exact sa.1 | exact sb.1 | exact sc.1) (by first | exact sa.2 | exact sb.2 | exact sc.2) (by first | exact sa.1 | exact sb.1 | exact sc.1) (by first | exact sa.2 | exact sb.2 | exact sc.2) sq.1 sq.2).mono ?_; rintro e w3 ⟨rfl, hb3⟩))
        rename_i hHw
        have hL3 := hL2.trans hHw.2
        go_wp2
        all_goals
          go_ret
          exact ⟨ret_int (by clear hp hLx hLc hb2 hL2 hHw hL3 h5 h6 h7; (try simp only [beq_iff_eq, beq_eq_false_iff_ne, ne_eq] at *); unfold holdsI crossP; omega), hL3⟩
    · by_cases hBC : crossI c.x c.y a.x a.y q.x q.y < crossI a.x a.y b.x b.y q.x q.y
      · go_region_held3 (fun w' : World => (∀ a : Addr, (w2.cell? a).isSome = true → w'.cell? a = w2.cell? a) ∧ Later w2 w') (first | assumption | exact keep_call (by assumption) (by assumption) | exact keep_call (by assumption) ((Later.refl _).alloc _) | exact keep_init _)
          (first | (go_at_call 104; refine (triangle_cross _ _ _ _ _ _ _ (by first | exact sa.1 | exact sb.1 | exact sc.1) (by first | exact sa.2 | exact sb.2 | exact sc.2) (by first | exact sa.1 | exact sb.1 | exact sc.1) (by first | exact sa.2 | exact sb.2 | exact sc.2) sq.1 sq.2).mono ?_; rintro e w3 ⟨rfl, hb3⟩))
        rename_i hHw
        have hL3 := hL2.trans hHw.2
        go_wp2
        all_goals
          go_ret
          exact ⟨ret_int (by clear hp hLx hLc hb2 hL2 hHw hL3 h5 h6 h7; (try simp only [beq_iff_eq, beq_eq_false_iff_ne, ne_eq] at *); unfold holdsI crossP; omega), hL3⟩
      · go_region_held3 (fun w' : World => (∀ a : Addr, (w2.cell? a).isSome = true → w'.cell? a = w2.cell? a) ∧ Later w2 w') (first | assumption | exact keep_call (by assumption) (by assumption) | exact keep_call (by assumption) ((Later.refl _).alloc _) | exact keep_init _)
          (first | (go_at_call 104; refine (triangle_cross _ _ _ _ _ _ _ (by first | exact sa.1 | exact sb.1 | exact sc.1) (by first | exact sa.2 | exact sb.2 | exact sc.2) (by first | exact sa.1 | exact sb.1 | exact sc.1) (by first | exact sa.2 | exact sb.2 | exact sc.2) sq.1 sq.2).mono ?_; rintro e w3 ⟨rfl, hb3⟩))
        rename_i hHw
        have hL3 := hL2.trans hHw.2
        go_wp2
        all_goals
          go_ret
          exact ⟨ret_int (by clear hp hLx hLc hb2 hL2 hHw hL3 h5 h6 h7; (try simp only [beq_iff_eq, beq_eq_false_iff_ne, ne_eq] at *); unfold holdsI crossP; omega), hL3⟩

end Go.Proofs.YtdhakoecjmaebaaGreat

/- The walks of triangle.Split's closures: corner, straight. -/
namespace Go.Proofs.YtdhakoecjmaebaaGreat
open Go.RowKit
set_option linter.unusedSimpArgs false
set_option linter.unusedVariables false

/-- The variable in block L holds a slice that reads as ps. -/
def VarPts (w : World) (L : Nat) (ps : List Pt) : Prop := ∃ g c, w.cell? ⟨L, 0, none⟩ = some (.slice (some ⟨g, 0, none⟩) ps.length c) ∧ ps.length ≤ c ∧ PtsAt w g 0 ps
theorem VarPts.later {w w' : World} {L : Nat} {ps : List Pt} (h : VarPts w L ps) (k : Later w w') : VarPts w' L ps :=
  let ⟨g, c, h1, h2, h3⟩ := h; ⟨g, c, k.cell h1, h2, h3.later k⟩

def ptV (p : Pt) : Value := .agg #[.int .i64 p.x, .int .i64 p.y]

set_option maxHeartbeats 2000000 in
theorem split_corner (L i : Nat) (ps : List Pt) (w : World) (hn : ps.length ≤ 1099511627776) (hi : i < ps.length) (hv : VarPts w L ps) :
    Calls Tryz.prog 102 #[.int .i64 i, .pointer (some ⟨L, 0, none⟩)] w (Ret (.tuple #[.agg #[.int .i64 (gp ps ((i + ps.length - 1) % ps.length)).x, .int .i64 (gp ps ((i + ps.length - 1) % ps.length)).y], .agg #[.int .i64 (gp ps i).x, .int .i64 (gp ps i).y], .agg #[.int .i64 (gp ps ((i + 1) % ps.length)).x, .int .i64 (gp ps ((i + 1) % ps.length)).y]]) w) := by
  obtain ⟨g, c, hL, hcap, hp⟩ := hv
  have hnil : ¬ ps = [] := by intro h; rw [h] at hi; simp at hi
  have hm0 : (i + ps.length - 1) % ps.length < ps.length := Nat.mod_lt _ (by omega)
  have hm1 : (i + 1) % ps.length < ps.length := Nat.mod_lt _ (by omega)
  obtain ⟨d1, d2⟩ := hp.get hm0
  obtain ⟨e1, e2⟩ := hp.get hi
  obtain ⟨f1, f2⟩ := hp.get hm1
  rw [← gp_eq] at d1 d2 e1 e2 f1 f2
  simp only [Nat.zero_add] at d1 d2 e1 e2 f1 f2
  have hgz : g < w.heap.size := World.block_lt_of_cell? _ _ e1
  have hLz : L < w.heap.size := World.block_lt_of_cell? _ _ hL
  have hgz1 : g < w.heap.size + 1 := by omega
  have hLz1 : L < w.heap.size + 1 := by omega
  have hgz2 : g < w.heap.size + 1 + 1 := by omega
  have hLz2 : L < w.heap.size + 1 + 1 := by omega
  have hw0 : IntKind.i64.wrap ((i : Int) + ps.length) = (i : Int) + ps.length := IntWalk.i64_in _ (by omega)
  have hw0' : IntKind.i64.wrap ((i : Int) + ps.length - 1) = (i : Int) + ps.length - 1 := IntWalk.i64_in _ (by omega)
  have ht0 : ((i : Int) + ps.length - 1).tmod (ps.length : Int) = ((i : Int) + ps.length - 1) % (ps.length : Int) := Int.tmod_eq_emod_of_nonneg (by omega)
  have hi0 : (0 : Int) ≤ ((i : Int) + ps.length - 1) % (ps.length : Int) ∧ ((i : Int) + ps.length - 1) % (ps.length : Int) < (ps.length : Int) := ⟨Int.emod_nonneg _ (by omega), Int.emod_lt_of_pos _ (by omega)⟩
  have hn0 : (((i : Int) + ps.length - 1) % (ps.length : Int)).toNat = (i + ps.length - 1) % ps.length := toNat_emod' i ps.length ps.length (by omega)
  have hw1 : IntKind.i64.wrap ((i : Int) + 1) = (i : Int) + 1 := IntWalk.i64_in _ (by omega)
  have ht1 : ((i : Int) + 1).tmod (ps.length : Int) = ((i : Int) + 1) % (ps.length : Int) := Int.tmod_eq_emod_of_nonneg (by omega)
  have hi1 : (0 : Int) ≤ ((i : Int) + 1) % (ps.length : Int) ∧ ((i : Int) + 1) % (ps.length : Int) < (ps.length : Int) := ⟨Int.emod_nonneg _ (by omega), Int.emod_lt_of_pos _ (by omega)⟩
  have hn1 : (((i : Int) + 1) % (ps.length : Int)).toNat = (i + 1) % ps.length := toNat_emod i 1 ps.length
  go_enter Tryz.func102, Tryz.ntmps102
  go_wp2
  go_region
  go_wp2
  exact bodyPost_ret (v := .tuple #[.agg #[.int .i64 (gp ps ((i + ps.length - 1) % ps.length)).x, .int .i64 (gp ps ((i + ps.length - 1) % ps.length)).y], .agg #[.int .i64 (gp ps i).x, .int .i64 (gp ps i).y], .agg #[.int .i64 (gp ps ((i + 1) % ps.length)).x, .int .i64 (gp ps ((i + 1) % ps.length)).y]]) (by simp [results, Tryz.results102, go_sem]) rfl ⟨rfl, (by repeat' (first | exact Later.refl _ | assumption | refine Later.drew ?_ | refine Later.drewN ?_ _ | refine Later.alloc ?_ _ | refine Later.put ?_ (by omega) _ | refine Later.trans ?_ (by assumption)))⟩

/-- The variable in block C holds the closure 'corner' over the variable in block L. -/
def VarCorner (w : World) (C L : Nat) : Prop := w.cell? ⟨C, 0, none⟩ = some (.func (.func 102) #[] #[.pointer (some ⟨L, 0, none⟩)])

set_option maxHeartbeats 1000000 in
theorem split_straight (C L i : Nat) (ps : List Pt) (w : World) (hn : ps.length ≤ 1099511627776) (hi : i < ps.length) (hv : VarPts w L ps) (hC : VarCorner w C L) (hsm : AllSm ps) :
    Calls Tryz.prog 103 #[.int .i64 i, .pointer (some ⟨C, 0, none⟩)] w (Ret (.bool (decide (bendI ps i = 0))) w) := by
  unfold VarCorner at hC
  have s0 := hsm ((i + ps.length - 1) % ps.length)
  have s1 := hsm i
  have s2 := hsm ((i + 1) % ps.length)
  go_enter Tryz.func103, Tryz.ntmps103
  go_wp2_with (first | (go_at_call 102; refine (split_corner _ _ _ _ hn hi hv).mono ?_; rintro e w1 ⟨rfl, hb1⟩) | (go_at_call 104; refine (triangle_cross _ _ _ _ _ _ _ s0.1 s0.2 s1.1 s1.2 s2.1 s2.2).mono ?_; rintro e w2 ⟨rfl, hb2⟩))
  go_ret
  exact ⟨ret_bool (by unfold bendI crossP; rw [Bool.eq_iff_iff]; simp), hb1.trans hb2⟩

/-- The least place from k on that passes the test; -1 if there is none. -/
def firstGo (t : Nat → Bool) : Nat → Nat → Int
  | 0, _ => -1
  | f + 1, k => if t k then k else firstGo t f (k + 1)
theorem first_hit {t : Nat → Bool} {n k : Nat} (h : k < n) (ht : t k = true) : firstGo t (n - k) k = k := by
  obtain ⟨f, hf⟩ : ∃ f, n - k = f + 1 := ⟨n - k - 1, by omega⟩
  rw [hf, firstGo, if_pos ht]
theorem first_miss {t : Nat → Bool} {n k : Nat} (h : k < n) (ht : t k = false) : firstGo t (n - k) k = firstGo t (n - (k + 1)) (k + 1) := by
  obtain ⟨f, hf⟩ : ∃ f, n - k = f + 1 := ⟨n - k - 1, by omega⟩
  rw [hf, firstGo, ht, show n - (k + 1) = f by omega]; rfl

set_option maxHeartbeats 1000000 in
theorem triangle_first_straight (n C : Nat) (t : Nat → Bool) (w : World) (hn : n ≤ 1099511627776)
    (H : Hid (∀ i W, i < n → Later w W → Calls Tryz.prog 103 #[.int .i64 (i : Nat), .pointer (some ⟨C, 0, none⟩)] W (Ret (.bool (t i)) W))) :
    Calls Tryz.prog 107 #[.int .i64 n, .func (.func 103) #[] #[.pointer (some ⟨C, 0, none⟩)]] w (Ret (.int .i64 (firstGo t n 0)) w) := by
  go_enter Tryz.func107, Tryz.ntmps107
  go_wp2
  go_loopw [4, 7] (fun r i wr => ∃ k : Nat, k ≤ n ∧ i = .int .i64 k ∧ firstGo t n 0 = firstGo t (n - k) k ∧ Later w wr) (fun _ i _ => n - (intOf i).toNat)
  case atStart => exact ⟨0, by omega, rfl, rfl, Later.refl _⟩
  case round =>
    obtain ⟨k, hk, rfl, he, hb⟩ := hrel
    have He := Lib.hid he
    clear he
    by_cases hlt : k < n
    · rcases ht : t k with _ | _
      · go_wp2_with (first | (go_at_call 103; refine (H.out k _ hlt hb).mono ?_; rintro e w1 ⟨rfl, hb1⟩))
        go_roundw
        case rel => exact ⟨k + 1, by omega, by go_num, by rw [He.out]; exact first_miss hlt ht, hb.trans hb1⟩
        case measure => simp [intOf]; omega
      · go_wp2_with (first | (go_at_call 103; refine (H.out k _ hlt hb).mono ?_; rintro e w1 ⟨rfl, hb1⟩))
        go_ret
        exact ⟨ret_int (by rw [He.out]; exact (first_hit hlt ht).symm), hb.trans hb1⟩
    · go_wp2
      go_ret
      exact ⟨ret_int (by rw [He.out, show n - k = 0 by omega]; rfl), hb⟩

set_option maxHeartbeats 1000000 in
theorem triangle_first_free (n C L : Nat) (t : Nat → Bool) (w : World) (hn : n ≤ 1099511627776)
    (H : Hid (∀ i W, i < n → Later w W → Calls Tryz.prog 105 #[.int .i64 (i : Nat), .pointer (some ⟨C, 0, none⟩), .pointer (some ⟨L, 0, none⟩)] W (Ret (.bool (t i)) W))) :
    Calls Tryz.prog 107 #[.int .i64 n, .func (.func 105) #[] #[.pointer (some ⟨C, 0, none⟩), .pointer (some ⟨L, 0, none⟩)]] w (Ret (.int .i64 (firstGo t n 0)) w) := by
  go_enter Tryz.func107, Tryz.ntmps107
  go_wp2
  go_loopw [4, 7] (fun r i wr => ∃ k : Nat, k ≤ n ∧ i = .int .i64 k ∧ firstGo t n 0 = firstGo t (n - k) k ∧ Later w wr) (fun _ i _ => n - (intOf i).toNat)
  case atStart => exact ⟨0, by omega, rfl, rfl, Later.refl _⟩
  case round =>
    obtain ⟨k, hk, rfl, he, hb⟩ := hrel
    have He := Lib.hid he
    clear he
    by_cases hlt : k < n
    · rcases ht : t k with _ | _
      · go_wp2_with (first | (go_at_call 105; refine (H.out k _ hlt hb).mono ?_; rintro e w1 ⟨rfl, hb1⟩))
        go_roundw
        case rel => exact ⟨k + 1, by omega, by go_num, by rw [He.out]; exact first_miss hlt ht, hb.trans hb1⟩
        case measure => simp [intOf]; omega
      · go_wp2_with (first | (go_at_call 105; refine (H.out k _ hlt hb).mono ?_; rintro e w1 ⟨rfl, hb1⟩))
        go_ret
        exact ⟨ret_int (by rw [He.out]; exact (first_hit hlt ht).symm), hb.trans hb1⟩
    · go_wp2
      go_ret
      exact ⟨ret_int (by rw [He.out, show n - k = 0 by omega]; rfl), hb⟩

end Go.Proofs.YtdhakoecjmaebaaGreat

/- The walk of triangle.Split's closure 'free'. -/
namespace Go.Proofs.YtdhakoecjmaebaaGreat
open Go.RowKit
set_option linter.unusedSimpArgs false
set_option linter.unusedVariables false

/-- No point of the list but a, b, c lies in the closed triangle. -/
def freeGo (a b c : Pt) : List Pt → Bool
  | [] => true
  | q :: l => if (q ≠ a ∧ q ≠ b ∧ q ≠ c) ∧ 0 ≤ holdsI a b c q then false else freeGo a b c l
def freeB (ps : List Pt) (i : Nat) : Bool :=
  decide (0 < bendI ps i) && freeGo (gp ps ((i + ps.length - 1) % ps.length)) (gp ps i) (gp ps ((i + 1) % ps.length)) ps
theorem free_hit {a b c q : Pt} {l : List Pt} (h1 : q ≠ a) (h2 : q ≠ b) (h3 : q ≠ c) (h : 0 ≤ holdsI a b c q) : freeGo a b c (q :: l) = false := by
  rw [freeGo, if_pos ⟨⟨h1, h2, h3⟩, h⟩]
theorem free_miss {a b c q : Pt} {l : List Pt} (h : ¬ ((q ≠ a ∧ q ≠ b ∧ q ≠ c) ∧ 0 ≤ holdsI a b c q)) : freeGo a b c (q :: l) = freeGo a b c l := by
  rw [freeGo, if_neg h]
theorem pt_eq {p q : Pt} : p = q ↔ (p.x = q.x ∧ p.y = q.y) := by
  cases p; cases q; simp
/-- All points are within the limits. -/
def AllIn (ps : List Pt) : Prop := ∀ j, outP (gp ps j) = false

theorem pts_three {w : World} {g : Nat} {a b c : Pt} (h : Blk w g 29 #[.int .i64 a.x, .int .i64 a.y, .int .i64 b.x, .int .i64 b.y, .int .i64 c.x, .int .i64 c.y]) : PtsAt w g 0 [a, b, c] := by
  intro i p hp
  rcases i with _ | _ | _ | i
  · cases hp; exact ⟨h.cell 0, h.cell 1⟩
  · cases hp; exact ⟨h.cell 2, h.cell 3⟩
  · cases hp; exact ⟨h.cell 4, h.cell 5⟩
  · simp at hp

set_option maxHeartbeats 4000000 in
theorem split_free (C L i : Nat) (ps : List Pt) (w : World) (hn : ps.length ≤ 1099511627776) (hi : i < ps.length) (hv : VarPts w L ps) (hC : VarCorner w C L) (hin : AllIn ps) :
    Calls Tryz.prog 105 #[.int .i64 i, .pointer (some ⟨C, 0, none⟩), .pointer (some ⟨L, 0, none⟩)] w (Ret (.bool (freeB ps i)) w) := by
  have hv0 := hv
  obtain ⟨g, cp, hL, hcap, hp⟩ := hv
  unfold VarCorner at hC
  have i0 := hin ((i + ps.length - 1) % ps.length)
  have i1 := hin i
  have i2 := hin ((i + 1) % ps.length)
  have hbd : bendI ps i = crossP (gp ps ((i + ps.length - 1) % ps.length)) (gp ps i) (gp ps ((i + 1) % ps.length)) := rfl
  have hfr : freeB ps i = (decide (0 < bendI ps i) && freeGo (gp ps ((i + ps.length - 1) % ps.length)) (gp ps i) (gp ps ((i + 1) % ps.length)) ps) := rfl
  have hcr := split_corner L i ps w hn hi hv0
  generalize gp ps ((i + ps.length - 1) % ps.length) = a at *
  generalize gp ps i = b at *
  generalize gp ps ((i + 1) % ps.length) = c at *
  rw [hbd] at hfr
  clear hbd
  have HF := Lib.hid hfr
  have HC := Lib.hid hcr
  clear hfr hcr
  have sa := out_sm i0
  have sb := out_sm i1
  have sc := out_sm i2
  by_cases ht : 0 < crossP a b c
  · have HF2 : Hid (freeB ps i = freeGo a b c ps) := Lib.hid (by rw [HF.out]; simp [ht])
    have Ht := Lib.hid ht
    unfold crossP at ht
    go_enter Tryz.func105, Tryz.ntmps105
    go_wp2_with (first | (go_at_call 102; refine HC.out.mono ?_; rintro e w1 ⟨rfl, hb1⟩) | (go_at_call 104; refine (triangle_cross _ _ _ _ _ _ _ sa.1 sa.2 sb.1 sb.2 sc.1 sc.2).mono ?_; rintro e w2 ⟨rfl, hb2⟩; have hL2 : Later w w2 := (by repeat' (first | exact Later.refl _ | assumption | refine Later.drew ?_ | refine Later.drewN ?_ _ | refine Later.alloc ?_ _ | refine Later.put ?_ (by omega) _ | refine Later.trans ?_ (by assumption))); have hcl := hL2.cell hL; have xax : w2.cell? ⟨w1.heap.size, 0, none⟩ = some (.int .i64 (a).x) := hb2.cell (by first | assumption | simp [go_sem]); have xay : w2.cell? ⟨w1.heap.size, 1, none⟩ = some (.int .i64 (a).y) := hb2.cell (by first | assumption | simp [go_sem]); have xbx : w2.cell? ⟨w1.heap.size + 1, 0, none⟩ = some (.int .i64 (b).x) := hb2.cell (by first | assumption | simp [go_sem]); have xby : w2.cell? ⟨w1.heap.size + 1, 1, none⟩ = some (.int .i64 (b).y) := hb2.cell (by first | assumption | simp [go_sem]); have xcx : w2.cell? ⟨w1.heap.size + 1 + 1, 0, none⟩ = some (.int .i64 (c).x) := hb2.cell (by first | assumption | simp [go_sem]); have xcy : w2.cell? ⟨w1.heap.size + 1 + 1, 1, none⟩ = some (.int .i64 (c).y) := hb2.cell (by first | assumption | simp [go_sem]); clear hb2))
    go_loopw [4, 24] (fun r ii wr => ∃ k : Nat, k ≤ ps.length ∧ ii = .int .i64 k ∧ freeGo a b c ps = freeGo a b c (ps.drop k) ∧ Later w2 wr) (fun _ ii _ => ps.length - (intOf ii).toNat)
    case atStart => exact ⟨0, by omega, rfl, rfl, Later.refl _⟩
    case round =>
      obtain ⟨k, hk, rfl, he, hb⟩ := hrel
      have He := Lib.hid he
      clear he
      by_cases hlt : k < ps.length
      · obtain ⟨e1, e2⟩ := (hp.later (hL2.trans hb)).get hlt
        simp only [Nat.zero_add] at e1 e2
        have hgz : g < wr.heap.size := World.block_lt_of_cell? _ _ e1
        have Hd := Lib.hid (drop_cons ps k hlt)
        have hq : outP (ps[k]) = false := by rw [← gp_eq hlt]; exact hin k
        generalize ps[k] = q at *
        have n1 := neq_spot q.x q.y a.x a.y
        have n2 := neq_spot q.x q.y b.x b.y
        have n3 := neq_spot q.x q.y c.x c.y
        have ya1 := hb.cell xax
        have ya2 := hb.cell xay
        have yb1 := hb.cell xbx
        have yb2 := hb.cell xby
        have yc1 := hb.cell xcx
        have yc2 := hb.cell xcy
        have za : w1.heap.size < wr.heap.size := World.block_lt_of_cell? _ _ ya1
        have zb : w1.heap.size + 1 < wr.heap.size := World.block_lt_of_cell? _ _ yb1
        have zc : w1.heap.size + 1 + 1 < wr.heap.size := World.block_lt_of_cell? _ _ yc1
        go_wp2_with (first | (go_at_call 106; refine (triangle_Holds _ _ _ a b c q _ ?hpp i0 i1 i2 hq Ht.out).mono ?_; rotate_left; rintro e w3 ⟨rfl, hb3⟩))
        case hpp => exact pts_three (Blk.new1 _ _ _ _)
        · go_ret
          exact ⟨ret_bool (by rw [HF2.out, He.out, Hd.out]; exact (free_hit (by rw [Ne, pt_eq]; omega) (by rw [Ne, pt_eq]; omega) (by rw [Ne, pt_eq]; omega) (by omega)).symm), (by repeat' (first | exact Later.refl _ | assumption | refine Later.drew ?_ | refine Later.drewN ?_ _ | refine Later.alloc ?_ _ | refine Later.put ?_ (by omega) _ | refine Later.trans ?_ (by assumption)))⟩
        all_goals
          go_roundw
          case rel => exact ⟨k + 1, by omega, by go_num, by rw [He.out, Hd.out]; exact free_miss (by simp only [ne_eq, pt_eq]; omega), (by repeat' (first | exact Later.refl _ | assumption | refine Later.drew ?_ | refine Later.drewN ?_ _ | refine Later.alloc ?_ _ | refine Later.put ?_ (by omega) _ | refine Later.trans ?_ (by assumption)))⟩
          case measure => simp [intOf]; omega
      · go_wp2
        go_ret
        exact ⟨ret_bool (by rw [HF2.out, He.out, List.drop_eq_nil_of_le (by omega)]; rfl), (by repeat' (first | exact Later.refl _ | assumption | refine Later.drew ?_ | refine Later.drewN ?_ _ | refine Later.alloc ?_ _ | refine Later.put ?_ (by omega) _ | refine Later.trans ?_ (by assumption)))⟩
  · have HF2 : Hid (freeB ps i = false) := Lib.hid (by rw [HF.out]; simp [ht])
    unfold crossP at ht
    go_enter Tryz.func105, Tryz.ntmps105
    go_wp2_with (first | (go_at_call 102; refine HC.out.mono ?_; rintro e w1 ⟨rfl, hb1⟩) | (go_at_call 104; refine (triangle_cross _ _ _ _ _ _ _ sa.1 sa.2 sb.1 sb.2 sc.1 sc.2).mono ?_; rintro e w2 ⟨rfl, hb2⟩))
    go_ret
    exact ⟨ret_bool (by rw [HF2.out]), (by repeat' (first | exact Later.refl _ | assumption | refine Later.drew ?_ | refine Later.drewN ?_ _ | refine Later.alloc ?_ _ | refine Later.put ?_ (by omega) _ | refine Later.trans ?_ (by assumption)))⟩

end Go.Proofs.YtdhakoecjmaebaaGreat
