/-
  A small lay with its account: the two answers of garmentlaw40.laid, and bounds of an account.
-/
import Derived.Test.YtpiniflhaokkaaaZOpen40
namespace Go.Proofs.Ytpiniflhaokkaaa
open Go.RowKit
set_option linter.unusedSimpArgs false
set_option linter.unusedVariables false

def LaidY40 (c : C8) (w : World) (e : Ending) (w' : World) : Prop :=
  ∃ S1 c1 S2 c2 P pc ys bt bp bd bw bs, e = .returned (.tuple #[.agg #[.int .i64 c.len, .int .i64 c.wd, .int .i64 c.rx, .int .i64 c.ry, .slice S1 c.sz.length c1, .slice S2 c.pl.length c2, .slice P (List.length ys) pc], .agg #[.int .i64 bt, .int .i64 bp, .int .i64 bd, .int .i64 bw, .int .i64 bs], .bool true]) ∧
    balR c.rs c.ps ys = ⟨bt, bp, bd, bw, bs⟩ ∧ ys.map Py.pl = (spR c).1 ∧ ys.length ≤ 8 ∧ ys.length ≤ pc ∧ pc ≤ maxLen ∧ Plys w' P ys ∧ Later w w'
theorem law40_yes (c : C8) (w : World) (hc : C8Ok w c) (h : Ok40 c) : Calls Try.prog 21 #[c.agg] w (LaidY40 c w) :=
  (law40_laid c w hc).mono fun e w' hp => by
    rcases hp with ⟨_, S1, c1, S2, c2, P, pc, ys, h1, h2⟩ | ⟨hn, _⟩
    · exact ⟨S1, c1, S2, c2, P, pc, ys, _, _, _, _, _, h1, rfl, h2⟩
    · exact absurd h hn
theorem law40_no (c : C8) (w : World) (hc : C8Ok w c) (h : ¬ Ok40 c) : Calls Try.prog 21 #[c.agg] w (LaidNo40 w) :=
  (law40_laid c w hc).mono fun e w' hp => by
    rcases hp with ⟨hn, _⟩ | ⟨_, hp⟩
    · exact absurd hn h
    · exact hp
theorem Ok40.acc {c : C8} (h : Ok40 c) {ys : List Py} (hys : ys.map Py.pl = (spR c).1) : accR c.len c.wd c.ps c.rs c.lots ys = (balR c.rs c.ps ys, 0) ∧ scheckR c.len c.wd c.ps c.rs c.lots (ys.map Py.pl) = 0 ∧ ckPolysR c.ps c.wd = 0 := by
  have h0 := h.2.2.2
  rw [← hys, acc_py] at h0
  exact acc_zero h0
theorem Ok40.parts {c : C8} (h : Ok40 c) {ys : List Py} (hys : ys.map Py.pl = (spR c).1) : ∀ y ∈ ys, y.parts.length ≤ 6 := by
  intro y hy
  obtain ⟨a1, a2, a3, a4, a5, a6, a7⟩ := few8_all h.1
  have h1 : Py.pl y ∈ (spR c).1 := by rw [← hys]; exact List.mem_map_of_mem hy
  have h2 := lotsGo_len (laid_ok h.2.1).2.1 _ h1
  have h3 : (Py.pl y).2.length = y.parts.length := rfl
  omega
theorem tknA_bd {rs : List Rl} (hw : ∀ r ∈ rs, 0 ≤ r.wd ∧ r.wd ≤ 1048576) : ∀ {ys : List Py}, (∀ y ∈ ys, y.parts.length ≤ 6 ∧ ∀ q ∈ y.parts, AccB rs.length q) → (-(105553116266496 * (ys.length : Int)) ≤ tknA rs ys ∧ tknA rs ys ≤ 105553116266496 * (ys.length : Int)) ∧ (-(105553116266496 * (ys.length : Int)) ≤ dblA rs ys ∧ dblA rs ys ≤ 105553116266496 * (ys.length : Int)) := by
  intro ys
  induction ys with
  | nil => intro _; exact ⟨⟨Int.le_refl _, Int.le_refl _⟩, ⟨Int.le_refl _, Int.le_refl _⟩⟩
  | cons y ys ih =>
    intro h
    obtain ⟨i1, i2⟩ := ih (fun z hz => h z (List.mem_cons_of_mem _ hz))
    obtain ⟨h1, h2⟩ := h y (List.mem_cons_self ..)
    have h3 := tkn_bd h2 hw
    have h4 := dbl_bd h2 hw
    have e1 : dblA rs (y :: ys) = dblQ rs y.parts + dblA rs ys := by simp [dblA]
    have e2 : tknA rs (y :: ys) = tknQ rs y.parts + tknA rs ys := by simp [tknA]
    rw [List.length_cons]
    omega
/-- The numbers of an account are moderate. -/
theorem bal_bd {len wd : Int} {polys : List (List Pt)} {rs : List Rl} {lots : List Int} {ys : List Py} (h1 : scheckR len wd polys rs lots (ys.map Py.pl) = 0) (h2 : ckPolysR polys wd = 0) (h8 : ys.length ≤ 8) (hp : ∀ y ∈ ys, y.parts.length ≤ 6) :
    (-1000000000000000 ≤ (balR rs polys ys).t ∧ (balR rs polys ys).t ≤ 1000000000000000) ∧ (-1000000000000000 ≤ (balR rs polys ys).s ∧ (balR rs polys ys).s ≤ 1000000000000000) ∧ (0 ≤ (balR rs polys ys).p ∧ (balR rs polys ys).p ≤ 20000000000000) ∧ (0 ≤ (balR rs polys ys).d ∧ (balR rs polys ys).d ≤ 20000000000000) ∧ (balR rs polys ys).w = (balR rs polys ys).t - (balR rs polys ys).s - (balR rs polys ys).d - (balR rs polys ys).p := by
  obtain ⟨hB, hw, h40, h60, h20, hl0, hl1, hw0, hw1⟩ := acc_parts h1
  obtain ⟨⟨t1, t2⟩, ⟨s1, s2⟩⟩ := tknA_bd hw (fun y hy => ⟨hp y hy, hB y hy⟩)
  have k3 := areas_cover h1 h2
  have hat : areaTot polys ≤ 2199023255552 := by
    have := two_bd (a := 2 * len) (b := wd) (M := 2097152) (N := 1048576) (by omega) ⟨hw0, hw1⟩ (by omega)
    omega
  have h0 : 0 ≤ areaTot polys := by
    have := sumHit_le true polys []
    have := sumHit_pos true polys []
    omega
  have k4 := hitA_both rs polys ys
  have k5 := Int.mul_le_mul_of_nonneg_right hat (show 0 ≤ (ys.length : Int) by omega)
  have k6 := hitA_pos false rs polys ys
  have k7 := hitA_pos true rs polys ys
  have e1 : (balR rs polys ys).t = tknA rs ys := rfl
  have e2 : (balR rs polys ys).s = dblA rs ys := rfl
  have e3 : (balR rs polys ys).p = hitA false rs polys ys := rfl
  have e4 : (balR rs polys ys).d = hitA true rs polys ys := rfl
  refine ⟨⟨by omega, by omega⟩, ⟨by omega, by omega⟩, ⟨by omega, by omega⟩, ⟨by omega, by omega⟩, rfl⟩
theorem two_nn {a b : Int} (ha : 0 ≤ a ∧ a ≤ 1048576) (hb : 0 ≤ b ∧ b ≤ 1048576) : 0 ≤ 2 * a * b ∧ 2 * a * b ≤ 2199023255552 := by
  have h := Int.mul_nonneg (show 0 ≤ 2 * a by omega) hb.1
  have := two_bd (a := 2 * a) (b := b) (M := 2097152) (N := 1048576) (by omega) hb (by omega)
  omega

end Go.Proofs.Ytpiniflhaokkaaa
