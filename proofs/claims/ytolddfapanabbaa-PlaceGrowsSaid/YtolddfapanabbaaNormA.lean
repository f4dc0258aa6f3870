/-
  The walks of polygon.bend and polygon.area.
-/
import Derived.Test.YtolddfapanabbaaPolyD
namespace Go.Proofs.Ytolddfapanabbaa
open Go.RowKit
set_option linter.unusedSimpArgs false
set_option linter.unusedVariables false

def crossP (a b c : Pt) : Int := crossI a.x a.y b.x b.y c.x c.y
/-- The cross product at vertex i. -/
def bendI (ps : List Pt) (i : Nat) : Int := crossP (gp ps ((i + ps.length - 1) % ps.length)) (gp ps i) (gp ps ((i + 1) % ps.length))

theorem toNat_emod' (i j n : Nat) (h : 1 ≤ i + j) : (((i : Int) + (j : Int) - 1) % (n : Int)).toNat = (i + j - 1) % n := by
  rw [show ((i : Int) + (j : Int) - 1) = ((i + j - 1 : Nat) : Int) by omega, ← Int.natCast_emod]
  exact Int.toNat_natCast _

set_option maxHeartbeats 1000000 in
theorem polygon_bend (b o c i : Nat) (ps : List Pt) (w : World) (hn : ps.length ≤ 1099511627776) (hi : i < ps.length) (hp : PtsAt w b o ps) (hsm : AllSm ps) :
    Calls Try.prog 110 #[.slice (some ⟨b, o, none⟩) ps.length c, .int .i64 i] w (Ret (.int .i64 (bendI ps i)) w) := by
  have hnil : ¬ ps = [] := by intro h; rw [h] at hi; simp at hi
  have hm0 : (i + ps.length - 1) % ps.length < ps.length := Nat.mod_lt _ (by omega)
  have hm1 : (i + 1) % ps.length < ps.length := Nat.mod_lt _ (by omega)
  obtain ⟨d1, d2⟩ := hp.get hm0
  obtain ⟨e1, e2⟩ := hp.get hi
  obtain ⟨f1, f2⟩ := hp.get hm1
  rw [← gp_eq] at d1 d2 e1 e2 f1 f2
  have s0 := hsm ((i + ps.length - 1) % ps.length)
  have s1 := hsm i
  have s2 := hsm ((i + 1) % ps.length)
  have hw0 : IntKind.i64.wrap ((i : Int) + ps.length) = (i : Int) + ps.length := IntWalk.i64_in _ (by omega)
  have hw0' : IntKind.i64.wrap ((i : Int) + ps.length - 1) = (i : Int) + ps.length - 1 := IntWalk.i64_in _ (by omega)
  have ht0 : ((i : Int) + ps.length - 1).tmod (ps.length : Int) = ((i : Int) + ps.length - 1) % (ps.length : Int) := Int.tmod_eq_emod_of_nonneg (by omega)
  have hi0 : (0 : Int) ≤ ((i : Int) + ps.length - 1) % (ps.length : Int) ∧ ((i : Int) + ps.length - 1) % (ps.length : Int) < (ps.length : Int) := ⟨Int.emod_nonneg _ (by omega), Int.emod_lt_of_pos _ (by omega)⟩
  have hn0 : (((i : Int) + ps.length - 1) % (ps.length : Int)).toNat = (i + ps.length - 1) % ps.length := toNat_emod' i ps.length ps.length (by omega)
  have hw1 : IntKind.i64.wrap ((i : Int) + 1) = (i : Int) + 1 := IntWalk.i64_in _ (by omega)
  have ht1 : ((i : Int) + 1).tmod (ps.length : Int) = ((i : Int) + 1) % (ps.length : Int) := Int.tmod_eq_emod_of_nonneg (by omega)
  have hi1 : (0 : Int) ≤ ((i : Int) + 1) % (ps.length : Int) ∧ ((i : Int) + 1) % (ps.length : Int) < (ps.length : Int) := ⟨Int.emod_nonneg _ (by omega), Int.emod_lt_of_pos _ (by omega)⟩
  have hn1 : (((i : Int) + 1) % (ps.length : Int)).toNat = (i + 1) % ps.length := toNat_emod i 1 ps.length
  go_enter Try.func110, Try.ntmps110
  go_wp2
  go_region_held3 (fun w' : World => (∀ a : Addr, (w.cell? a).isSome = true → w'.cell? a = w.cell? a) ∧ Later w w') (first | assumption | exact keep_call (by assumption) (by assumption) | exact keep_call (by assumption) ((Later.refl _).alloc _) | exact keep_init _)
    (first | (go_at_call 128; refine (polygon_cross _ _ _ _ _ _ _ s0.1 s0.2 s1.1 s1.2 s2.1 s2.2).mono ?_; rintro e w1 ⟨rfl, hb1⟩))
  rename_i hHw
  go_wp2
  go_ret
  exact ⟨ret_int rfl, hHw.2⟩

/-- Twice the signed area, the rest from vertex i on. -/
def areaGo (ps : List Pt) : Nat → Nat → Int → Int
  | 0, _, s => s
  | f + 1, i, s => areaGo ps f (i + 1) (s + ((gp ps i).x * (gp ps ((i + 1) % ps.length)).y - (gp ps i).y * (gp ps ((i + 1) % ps.length)).x))
def areaI (ps : List Pt) : Int := areaGo ps ps.length 0 0
theorem area_step {ps : List Pt} {i : Nat} {s x : Int} (he : x = areaGo ps (ps.length - i) i s) (h : i < ps.length) :
    x = areaGo ps (ps.length - (i + 1)) (i + 1) (s + ((gp ps i).x * (gp ps ((i + 1) % ps.length)).y - (gp ps i).y * (gp ps ((i + 1) % ps.length)).x)) := by
  obtain ⟨f, hf'⟩ : ∃ f, ps.length - i = f + 1 := ⟨ps.length - i - 1, by omega⟩
  rw [he, hf', areaGo, show ps.length - (i + 1) = f by omega]
theorem area_term (a b : Pt) (ha : SmP a) (hb : SmP b) : (-17592186044416 ≤ a.x * b.y ∧ a.x * b.y ≤ 17592186044416) ∧ (-17592186044416 ≤ a.y * b.x ∧ a.y * b.x ≤ 17592186044416) := by
  unfold SmP Sm at *
  have h1 := mul_bd (a := a.x) (b := b.y) 4194304 (by omega) (by omega)
  have h2 := mul_bd (a := a.y) (b := b.x) 4194304 (by omega) (by omega)
  omega

set_option maxHeartbeats 1000000 in
theorem polygon_area (b o c : Nat) (ps : List Pt) (w : World) (hn : ps.length ≤ 64) (hp : PtsAt w b o ps) (hsm : AllSm ps) :
    Calls Try.prog 111 #[.slice (some ⟨b, o, none⟩) ps.length c] w (Ret (.int .i64 (areaI ps)) w) := by
  go_enter Try.func111, Try.ntmps111
  go_wp2
  go_loopw [3, 9] (fun sv i wr => ∃ (k : Nat) (s : Int), k ≤ ps.length ∧ i = .int .i64 k ∧ sv = .int .i64 s ∧ areaI ps = areaGo ps (ps.length - k) k s ∧ Later w wr ∧ (-35184372088832 * (k : Int) ≤ s ∧ s ≤ 35184372088832 * (k : Int))) (fun _ i _ => ps.length - (intOf i).toNat)
  case atStart => exact ⟨0, 0, by omega, rfl, rfl, rfl, Later.refl _, by omega, by omega⟩
  case round =>
    obtain ⟨k, s, hk, rfl, rfl, he, hb, hs⟩ := hrel
    have He := Lib.hid he
    clear he
    by_cases hlt : k < ps.length
    · have hm1 : (k + 1) % ps.length < ps.length := Nat.mod_lt _ (by omega)
      obtain ⟨e1, e2⟩ := (hp.later hb).get hlt
      obtain ⟨f1, f2⟩ := (hp.later hb).get hm1
      rw [← gp_eq] at e1 e2 f1 f2
      have hbz : b < wr.heap.size := World.block_lt_of_cell? _ _ e1
      have hi1 : (0 : Int) ≤ ((k : Int) + 1) % (ps.length : Int) ∧ ((k : Int) + 1) % (ps.length : Int) < (ps.length : Int) := ⟨Int.emod_nonneg _ (by omega), Int.emod_lt_of_pos _ (by omega)⟩
      have ht := area_term (gp ps k) (gp ps ((k + 1) % ps.length)) (hsm _) (hsm _)
      go_wp2
      go_roundw
      case rel => exact ⟨k + 1, _, by omega, by go_num, rfl, area_step He.out hlt, (hb.alloc _).alloc _, by omega, by omega⟩
      case measure => simp [intOf]; omega
    · go_wp2
      go_ret
      exact ⟨ret_int (by rw [He.out, show ps.length - k = 0 by omega]; rfl), hb⟩

end Go.Proofs.Ytolddfapanabbaa
