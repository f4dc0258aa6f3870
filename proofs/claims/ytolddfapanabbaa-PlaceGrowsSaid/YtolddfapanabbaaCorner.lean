/-
  The walks of triangle.Split's closures: corner, straight.
-/
import Derived.Test.YtolddfapanabbaaNormA
import Derived.Deep.DeepCutAuto
namespace Go.Proofs.Ytolddfapanabbaa
open Go.RowKit
set_option linter.unusedSimpArgs false
set_option linter.unusedVariables false

/-- The variable in block L holds a slice that reads as ps. -/
def VarPts (w : World) (L : Nat) (ps : List Pt) : Prop := ∃ g c, w.cell? ⟨L, 0, none⟩ = some (.slice (some ⟨g, 0, none⟩) ps.length c) ∧ ps.length ≤ c ∧ PtsAt w g 0 ps
theorem VarPts.later {w w' : World} {L : Nat} {ps : List Pt} (h : VarPts w L ps) (k : Later w w') : VarPts w' L ps :=
  let ⟨g, c, h1, h2, h3⟩ := h; ⟨g, c, k.cell h1, h2, h3.later k⟩

def ptV (p : Pt) : Value := .agg #[.int .i64 p.x, .int .i64 p.y]

set_option maxHeartbeats 2000000 in
theorem split_corner (L i : Nat) (ps : List Pt) (w : World) (hn : ps.length ≤ 1099511627776) (hi : i < ps.length) (hv : VarPts w L ps) :
    Calls Try.prog 79 #[.int .i64 i, .pointer (some ⟨L, 0, none⟩)] w (Ret (.tuple #[.agg #[.int .i64 (gp ps ((i + ps.length - 1) % ps.length)).x, .int .i64 (gp ps ((i + ps.length - 1) % ps.length)).y], .agg #[.int .i64 (gp ps i).x, .int .i64 (gp ps i).y], .agg #[.int .i64 (gp ps ((i + 1) % ps.length)).x, .int .i64 (gp ps ((i + 1) % ps.length)).y]]) w) := by
  obtain ⟨g, c, hL, hcap, hp⟩ := hv
  have hnil : ¬ ps = [] := by intro h; rw [h] at hi; simp at hi
  have hm0 : (i + ps.length - 1) % ps.length < ps.length := Nat.mod_lt _ (by omega)
  have hm1 : (i + 1) % ps.length < ps.length := Nat.mod_lt _ (by omega)
  obtain ⟨d1, d2⟩ := hp.get hm0
  obtain ⟨e1, e2⟩ := hp.get hi
  obtain ⟨f1, f2⟩ := hp.get hm1
  rw [← gp_eq] at d1 d2 e1 e2 f1 f2
  simp only [Nat.zero_add] at d1 d2 e1 e2 f1 f2
  have hgz : g < w.heap.size := World.block_lt_of_cell? _ _ e1
  have hLz : L < w.heap.size := World.block_lt_of_cell? _ _ hL
  have hgz1 : g < w.heap.size + 1 := by omega
  have hLz1 : L < w.heap.size + 1 := by omega
  have hgz2 : g < w.heap.size + 1 + 1 := by omega
  have hLz2 : L < w.heap.size + 1 + 1 := by omega
  have hw0 : IntKind.i64.wrap ((i : Int) + ps.length) = (i : Int) + ps.length := IntWalk.i64_in _ (by omega)
  have hw0' : IntKind.i64.wrap ((i : Int) + ps.length - 1) = (i : Int) + ps.length - 1 := IntWalk.i64_in _ (by omega)
  have ht0 : ((i : Int) + ps.length - 1).tmod (ps.length : Int) = ((i : Int) + ps.length - 1) % (ps.length : Int) := Int.tmod_eq_emod_of_nonneg (by omega)
  have hi0 : (0 : Int) ≤ ((i : Int) + ps.length - 1) % (ps.length : Int) ∧ ((i : Int) + ps.length - 1) % (ps.length : Int) < (ps.length : Int) := ⟨Int.emod_nonneg _ (by omega), Int.emod_lt_of_pos _ (by omega)⟩
  have hn0 : (((i : Int) + ps.length - 1) % (ps.length : Int)).toNat = (i + ps.length - 1) % ps.length := toNat_emod' i ps.length ps.length (by omega)
  have hw1 : IntKind.i64.wrap ((i : Int) + 1) = (i : Int) + 1 := IntWalk.i64_in _ (by omega)
  have ht1 : ((i : Int) + 1).tmod (ps.length : Int) = ((i : Int) + 1) % (ps.length : Int) := Int.tmod_eq_emod_of_nonneg (by omega)
  have hi1 : (0 : Int) ≤ ((i : Int) + 1) % (ps.length : Int) ∧ ((i : Int) + 1) % (ps.length : Int) < (ps.length : Int) := ⟨Int.emod_nonneg _ (by omega), Int.emod_lt_of_pos _ (by omega)⟩
  have hn1 : (((i : Int) + 1) % (ps.length : Int)).toNat = (i + 1) % ps.length := toNat_emod i 1 ps.length
  go_enter Try.func79, Try.ntmps79
  go_wp2
  go_region
  go_wp2
  exact bodyPost_ret (v := .tuple #[.agg #[.int .i64 (gp ps ((i + ps.length - 1) % ps.length)).x, .int .i64 (gp ps ((i + ps.length - 1) % ps.length)).y], .agg #[.int .i64 (gp ps i).x, .int .i64 (gp ps i).y], .agg #[.int .i64 (gp ps ((i + 1) % ps.length)).x, .int .i64 (gp ps ((i + 1) % ps.length)).y]]) (by simp [results, Try.results79, go_sem]) rfl ⟨rfl, (by repeat' (first | exact Later.refl _ | assumption | refine Later.drew ?_ | refine Later.drewN ?_ _ | refine Later.alloc ?_ _ | refine Later.put ?_ (by omega) _ | refine Later.trans ?_ (by assumption)))⟩

/-- The variable in block C holds the closure 'corner' over the variable in block L. -/
def VarCorner (w : World) (C L : Nat) : Prop := w.cell? ⟨C, 0, none⟩ = some (.func (.func 79) #[] #[.pointer (some ⟨L, 0, none⟩)])

set_option maxHeartbeats 1000000 in
theorem split_straight (C L i : Nat) (ps : List Pt) (w : World) (hn : ps.length ≤ 1099511627776) (hi : i < ps.length) (hv : VarPts w L ps) (hC : VarCorner w C L) (hsm : AllSm ps) :
    Calls Try.prog 80 #[.int .i64 i, .pointer (some ⟨C, 0, none⟩)] w (Ret (.bool (decide (bendI ps i = 0))) w) := by
  unfold VarCorner at hC
  have s0 := hsm ((i + ps.length - 1) % ps.length)
  have s1 := hsm i
  have s2 := hsm ((i + 1) % ps.length)
  go_enter Try.func80, Try.ntmps80
  go_wp2_with (first | (go_at_call 79; refine (split_corner _ _ _ _ hn hi hv).mono ?_; rintro e w1 ⟨rfl, hb1⟩) | (go_at_call 81; refine (triangle_cross _ _ _ _ _ _ _ s0.1 s0.2 s1.1 s1.2 s2.1 s2.2).mono ?_; rintro e w2 ⟨rfl, hb2⟩))
  go_ret
  exact ⟨ret_bool (by unfold bendI crossP; rw [Bool.eq_iff_iff]; simp), hb1.trans hb2⟩

/-- The least place from k on that passes the test; -1 if there is none. -/
def firstGo (t : Nat → Bool) : Nat → Nat → Int
  | 0, _ => -1
  | f + 1, k => if t k then k else firstGo t f (k + 1)
theorem first_hit {t : Nat → Bool} {n k : Nat} (h : k < n) (ht : t k = true) : firstGo t (n - k) k = k := by
  obtain ⟨f, hf⟩ : ∃ f, n - k = f + 1 := ⟨n - k - 1, by omega⟩
  rw [hf, firstGo, if_pos ht]
theorem first_miss {t : Nat → Bool} {n k : Nat} (h : k < n) (ht : t k = false) : firstGo t (n - k) k = firstGo t (n - (k + 1)) (k + 1) := by
  obtain ⟨f, hf⟩ : ∃ f, n - k = f + 1 := ⟨n - k - 1, by omega⟩
  rw [hf, firstGo, ht, show n - (k + 1) = f by omega]; rfl

set_option maxHeartbeats 1000000 in
theorem triangle_first_straight (n C : Nat) (t : Nat → Bool) (w : World) (hn : n ≤ 1099511627776)
    (H : Hid (∀ i W, i < n → Later w W → Calls Try.prog 80 #[.int .i64 (i : Nat), .pointer (some ⟨C, 0, none⟩)] W (Ret (.bool (t i)) W))) :
    Calls Try.prog 84 #[.int .i64 n, .func (.func 80) #[] #[.pointer (some ⟨C, 0, none⟩)]] w (Ret (.int .i64 (firstGo t n 0)) w) := by
  go_enter Try.func84, Try.ntmps84
  go_wp2
  go_loopw [4, 7] (fun r i wr => ∃ k : Nat, k ≤ n ∧ i = .int .i64 k ∧ firstGo t n 0 = firstGo t (n - k) k ∧ Later w wr) (fun _ i _ => n - (intOf i).toNat)
  case atStart => exact ⟨0, by omega, rfl, rfl, Later.refl _⟩
  case round =>
    obtain ⟨k, hk, rfl, he, hb⟩ := hrel
    have He := Lib.hid he
    clear he
    by_cases hlt : k < n
    · rcases ht : t k with _ | _
      · go_wp2_with (first | (go_at_call 80; refine (H.out k _ hlt hb).mono ?_; rintro e w1 ⟨rfl, hb1⟩))
        go_roundw
        case rel => exact ⟨k + 1, by omega, by go_num, by rw [He.out]; exact first_miss hlt ht, hb.trans hb1⟩
        case measure => simp [intOf]; omega
      · go_wp2_with (first | (go_at_call 80; refine (H.out k _ hlt hb).mono ?_; rintro e w1 ⟨rfl, hb1⟩))
        go_ret
        exact ⟨ret_int (by rw [He.out]; exact (first_hit hlt ht).symm), hb.trans hb1⟩
    · go_wp2
      go_ret
      exact ⟨ret_int (by rw [He.out, show n - k = 0 by omega]; rfl), hb⟩

set_option maxHeartbeats 1000000 in
theorem triangle_first_free (n C L : Nat) (t : Nat → Bool) (w : World) (hn : n ≤ 1099511627776)
    (H : Hid (∀ i W, i < n → Later w W → Calls Try.prog 82 #[.int .i64 (i : Nat), .pointer (some ⟨C, 0, none⟩), .pointer (some ⟨L, 0, none⟩)] W (Ret (.bool (t i)) W))) :
    Calls Try.prog 84 #[.int .i64 n, .func (.func 82) #[] #[.pointer (some ⟨C, 0, none⟩), .pointer (some ⟨L, 0, none⟩)]] w (Ret (.int .i64 (firstGo t n 0)) w) := by
  go_enter Try.func84, Try.ntmps84
  go_wp2
  go_loopw [4, 7] (fun r i wr => ∃ k : Nat, k ≤ n ∧ i = .int .i64 k ∧ firstGo t n 0 = firstGo t (n - k) k ∧ Later w wr) (fun _ i _ => n - (intOf i).toNat)
  case atStart => exact ⟨0, by omega, rfl, rfl, Later.refl _⟩
  case round =>
    obtain ⟨k, hk, rfl, he, hb⟩ := hrel
    have He := Lib.hid he
    clear he
    by_cases hlt : k < n
    · rcases ht : t k with _ | _
      · go_wp2_with (first | (go_at_call 82; refine (H.out k _ hlt hb).mono ?_; rintro e w1 ⟨rfl, hb1⟩))
        go_roundw
        case rel => exact ⟨k + 1, by omega, by go_num, by rw [He.out]; exact first_miss hlt ht, hb.trans hb1⟩
        case measure => simp [intOf]; omega
      · go_wp2_with (first | (go_at_call 82; refine (H.out k _ hlt hb).mono ?_; rintro e w1 ⟨rfl, hb1⟩))
        go_ret
        exact ⟨ret_int (by rw [He.out]; exact (first_hit hlt ht).symm), hb.trans hb1⟩
    · go_wp2
      go_ret
      exact ⟨ret_int (by rw [He.out, show n - k = 0 by omega]; rfl), hb⟩

end Go.Proofs.Ytolddfapanabbaa
